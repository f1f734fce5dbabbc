/-
  Collation tables (21): the table of a collation: load, find, implicit; Find, Implicit.
-/
import Derived.Test.YtgbaaobgnpjhcaaGreatDoorCtT
import Derived.Shelf.SlGeneric
import Derived.Shelf.Small.Bits
import Derived.Shelf.Small.Strs
import Derived.Ground.GgwProg
import Derived.Ground.NamesProg
import Derived.Ground.Names2Prog
import Derived.Shelf.GgClosure.StringsIndexFuncTop
import Derived.Shelf.SlSortCmp.SmallK
import Derived.Ground.SlsfProg
import Derived.Shelf.SlicesG.Cmp
import Derived.Ground.SlgcProg
import Derived.Test.YtgbaaobgnpjhcaaGreatDoorProg
import Derived.WalkKit
import Derived.BigCall
import Derived.Test.YtgbaaobgnpjhcaaGreatDoorCtB
set_option linter.all false
set_option linter.unusedSimpArgs false
set_option linter.unusedVariables false
section
namespace Go.Pv.Ct
open Go.Pv
set_option maxRecDepth 20000

structure Mp where
  from' : Int
  to : List Int
  tag : List UInt8
  a : Bool
def Mp.cells (m : Mp) : List PV := [.int .i64 m.from', .sl 1 (ints m.to) (tk m.a), .str m.tag]
def mpR (l : List Mp) : List (List PV) := l.map Mp.cells
theorem mpR_length (l : List Mp) : (mpR l).length = l.length := by simp [mpR]
theorem mpR_get (l : List Mp) (i : Nat) (h : i < l.length) : (mpR l)[i]? = some [.int .i64 l[i].from', .sl 1 (ints l[i].to) (tk l[i].a), .str l[i].tag] := by simp [mpR, h, Mp.cells]
structure Rg where
  lo : Int
  hi : Int
def Rg.cells (r : Rg) : List PV := [.int .i64 r.lo, .int .i64 r.hi]
def rgR (l : List Rg) : List (List PV) := l.map Rg.cells
theorem rgR_length (l : List Rg) : (rgR l).length = l.length := by simp [rgR]
theorem rgR_get (l : List Rg) (i : Nat) (h : i < l.length) : (rgR l)[i]? = some [.int .i64 l[i].lo, .int .i64 l[i].hi] := by simp [rgR, h, Rg.cells]
/-- The data of normalization. -/
structure Nrm where
  cls : List Span
  dec : List Mp
  exc : List Rg
  a : Bool
  b : Bool
  c : Bool
def Nrm.cells (n : Nrm) : List PV := [.sl 3 (spR n.cls) (tk n.a), .sl 3 (mpR n.dec) (tk n.b), .sl 2 (rgR n.exc) (tk n.c)]
def nrm0 : Nrm := ⟨[], [], [], true, true, true⟩
theorem strip_nrm' (n : Nrm) : strip1 (.agg [.sl 3 (spR n.cls) (tk n.a), .sl 3 (mpR n.dec) (tk n.b), .sl 2 (rgR n.exc) (tk n.c)]) = some (.agg [.sl 3 (spR n.cls) (tk n.a), .sl 3 (mpR n.dec) (tk n.b), .sl 2 (rgR n.exc) (tk n.c)]) := by
  simp [strip1, share, tokRo_tk, cellOk_tk]
/-- The classes that count. -/
def clsOf (n : Nrm) (e : Int) : List Span × Bool := if e = 0 then (n.cls, n.a) else ([], true)
def entP (x : Entry) : PV := .sl 4 (elR x.els) (tk x.b)
def entKey (x : Entry) : List UInt8 := keyL x.codes
/-- A table in the store. -/
structure Tab (st : Store) (id m : Nat) (d : Coll) (cls : List Span × Bool) : Prop where
  tab : st[id]? = some (.cells [.sl 2 (entR d.ents) (tk d.a), .sl 3 (grpR d.grps) (tk d.b), .int .i64 d.base, .int .i64 d.second, .int .i64 d.third, .sl 3 (spR cls.1) (tk cls.2), .map m])
  ents : st[m]? = some (.map (kmap entKey entP d.ents))
theorem Tab.grows {st st' : Store} {id m : Nat} {d : Coll} {cls : List Span × Bool} (h : Tab st id m d cls) (g : Grows st st') : Tab st' id m d cls := ⟨g.get h.tab, g.get h.ents⟩
theorem get_at (a l : Store) (k : Nat) : (a ++ l)[a.length + k]? = l[k]? := by rw [List.getElem?_append_right (by omega)]; congr 1; omega
theorem get_at0 (a l : Store) : (a ++ l)[a.length]? = l[0]? := by have := get_at a l 0; simpa using this
theorem set_at (a l : Store) (k : Nat) (o : Ob) : (a ++ l).set (a.length + k) o = a ++ l.set k o := by
  rw [List.set_append_right _ _ (by omega)]; congr 2; omega
theorem set_at0 (a l : Store) (o : Ob) : (a ++ l).set a.length o = a ++ l.set 0 o := by have := set_at a l 0 o; simpa using this
theorem Grows.setAt {a b : Store} (h : Grows a b) {i : Nat} (hi : a.length ≤ i) (o : Ob) : Grows a (b.set i o) := by
  obtain ⟨x, rfl⟩ := h
  exact ⟨x.set (i - a.length) o, by rw [List.set_append_right _ _ hi]⟩

theorem key_ok {c : Coll} (h : collErr c = 0) (x : Entry) (hx : x ∈ c.ents) : x.codes.length ≤ 1099511627776 ∧ ∀ n ∈ x.codes, -9223372036854775808 ≤ n ∧ n ≤ 9223372036854775807 := by
  have := (valid_of h).ent x hx
  unfold entErr at this
  split at this
  · omega
  · rename_i h1
    split at this
    · omega
    · rename_i h2
      refine ⟨by omega, fun n hn => ?_⟩
      have h2' : x.codes.any (fun n => !validC n) = false := by rw [← Bool.not_eq_true]; exact h2
      have h3 := List.any_eq_false.1 h2' n hn
      have h4 := valid_range (c := n) (by simpa using h3)
      omega
theorem data_key (c : Coll) (x : Entry) (hx : x ∈ (dataC c).ents) : x.codes.length ≤ 1099511627776 ∧ ∀ n ∈ x.codes, -9223372036854775808 ≤ n ∧ n ≤ 9223372036854775807 := by
  unfold dataC at hx
  split at hx
  · rename_i h; exact key_ok h x hx
  · simp [dflt] at hx
theorem data_asc (c : Coll) : Asc (dataC c).ents := by
  unfold dataC
  split
  · rename_i h; exact (valid_of h).asc
  · exact .nil
theorem kmap_take {l : List Entry} {i : Nat} (h : i < l.length) : kmap entKey entP (l.take (i + 1)) = kmap entKey entP (l.take i) ++ [(.str (keyL l[i].codes), .sl 4 (elR l[i].els) (tk l[i].b))] := by
  unfold kmap
  rw [List.take_succ_eq_append_getElem h, List.map_append]
  rfl
theorem find_new {l : List Entry} (ha : Asc l) {i : Nat} (h : i < l.length) : findF (.str (keyL l[i].codes)) (kmap entKey entP (l.take i)) 0 = some none := by
  rw [find_kmap]
  have : (l.take i).findIdx? (fun x => entKey x == keyL l[i].codes) = none := by
    rw [List.findIdx?_eq_none_iff]
    intro x hx
    obtain ⟨j, hj, rfl⟩ := List.getElem_of_mem hx
    rw [List.getElem_take]
    have hj' : j < i := by simp at hj; omega
    have := asc_ne ha h hj'
    simp only [beq_eq_false_iff_ne, entKey]
    exact fun e => this (keyL_inj _ _ e)
  rw [this]; rfl

/-- The entries are laid down. -/
def tabC (d : Coll) (cls : List Span × Bool) (m : Nat) : List PV := [.sl 2 (entR d.ents) (tk d.a), .sl 3 (grpR d.grps) (tk d.b), .int .i64 d.base, .int .i64 d.second, .int .i64 d.third, .sl 3 (spR cls.1) (tk cls.2), .map m]
set_option maxHeartbeats 4000000 in
theorem load_loop (d : Coll) (cls : List Span × Bool) (hl : d.ents.length < 9223372036854775808) (ha : Asc d.ents) (hk : ∀ x ∈ d.ents, x.codes.length ≤ 1099511627776 ∧ ∀ n ∈ x.codes, -9223372036854775808 ≤ n ∧ n ≤ 9223372036854775807)
    (st0 : Store) (id m ic : Nat) (hid : st0.length ≤ id) (hm : st0.length ≤ m) (hne : id ≠ m) (fr : Fr) (st : Store) (hg : Grows st0 st) (f5 : fr 5 = .optr id 7 0) (f3 : fr 3 = .optr ic 5 0) (hc : st[ic]? = some (.cells d.cells))
    (sid : st[id]? = some (.cells (tabC d cls m))) (sm : st[m]? = some (.map [])) :
    W EE 42 (part [true, true, true, true] (code Go.Proofs.Tryz.f41)) fr st (EndW EE [.tmp 4] fun r st' => r = .optr id 7 0 ∧ Tab st' id m d cls ∧ Grows st0 st') := by
  have e1 : part [true, true, true, true] (code Go.Proofs.Tryz.f41) = part [true, true, true, true] (code Go.Proofs.Tryz.f41) := rfl
  conv at e1 => rhs; simp only [part, code, Go.Proofs.Tryz.f41, Option.getD_some]
  rw [e1]
  clear e1
  simp only [W_region, W_seq, W_block, W_ret, OpsW_nil, OpsW_op, upd_some, opF, evalT, evalO, ofConst, Nat.reduceEqDiff, Nat.reduceAdd, Option.map_some, List.getElem?_cons_zero, Nat.succ_ne_zero, if_true, if_false, Bool.false_eq_true, List.length_cons, List.length_nil, callB, List.zip_cons_cons, List.zip_nil_right, List.map_cons, List.map_nil, List.size_toArray, partF, TI.agg, Nat.reduceLeDiff, List.take_zero, List.drop_zero, List.take_succ_cons, T22, T25, f3, hc, Coll.cells, entR_length]
  refine W_loop (fun n fr st => ∃ (i : Nat), fr 5 = .optr id 7 0 ∧ fr 25 = .sl 2 (entR d.ents) (tk d.a) ∧ fr 26 = .int .i64 d.ents.length ∧ fr 27 = .int .i64 i ∧ i ≤ d.ents.length ∧ Grows st0 st ∧ st[id]? = some (.cells (tabC d cls m)) ∧ st[m]? = some (.map (kmap entKey entP (d.ents.take i))) ∧ n = d.ents.length - i) ?_ d.ents.length _ _
    ⟨0, by simp [upd, f5], by simp [upd], by simp [upd], by simp [upd], by omega, hg, sid, by simpa [kmap] using sm, by omega⟩
  clear f5 f3 hc sid sm hg
  rintro n fr st ⟨i, f5, f25, f26, f27, hi, hg, sid, sm, rfl⟩
  have g1 : ∀ x, (st ++ [x])[id]? = some (.cells (tabC d cls m)) := fun x => get_app sid
  have g2 : ∀ x, (st ++ [x])[m]? = some (.map (kmap entKey entP (d.ents.take i))) := fun x => get_app sm
  by_cases ci : (i : Int) < (d.ents.length : Int)
  · have ia : i < d.ents.length := by omega
    have ga := entR_get d.ents i ia
    have hw : IntKind.i64.wrap ((i : Int) + 1) = ((i + 1 : Nat) : Int) := by rw [wrap_small (by omega) (by omega)]; rfl
    have hf := find_new ha ia
    have hkt := kmap_take ia
    obtain ⟨k1, k2⟩ := hk _ (List.getElem_mem ia)
    simp only [W_skip, W_region, W_seq, W_cond, W_block, OpsW_nil, OpsW_op, upd_some, upd_none, Br_W1, opF, evalT, evalO, ofConst, binF, intF, idxN_nat, Nat.reduceEqDiff, Nat.reduceAdd, Option.map_some, List.getElem?_cons_zero, List.getElem?_cons_succ, Nat.succ_ne_zero, and_self, true_and, exists_and_left, if_true, if_false, decide_true, Bool.false_eq_true, List.length_cons, List.length_nil, partF, TI.agg, scal, isAgg, cellsOf, Bool.or_true, Nat.reduceLeDiff, splice, List.take_zero, List.drop_zero, List.drop_succ_cons, List.take_succ_cons, List.nil_append, List.cons_append, W_regionD, xrE, T22, T37, T54, T99, T101, f5, f25, f26, f27, ci, ga, get_last, set_last, g1, tabC]
    refine OpsW_pl (key_plain d.ents[i].codes _ k1 k2) rfl rfl (by simp only [upd_some, evalT, evalO, ofConst, Nat.reduceEqDiff, Option.some.injEq, if_true, if_false, List.zip_cons_cons, List.zip_nil_right, List.map_cons, List.map_nil, callArgs, strips, strip_sl, stripT_tk] <;> rfl) ?_
    have hx : ∀ x : Ob, m < (st ++ [x]).length := fun x => by have := get_lt sm; simp; omega
    simp only [OpsW_nil, OpsW_op, upd_some, upd_none, opF, evalT, evalO, Nat.reduceEqDiff, Nat.reduceAdd, Option.map_some, List.getElem?_cons_zero, List.getElem?_cons_succ, Nat.succ_ne_zero, true_and, if_true, if_false, Bool.false_eq_true, List.length_cons, List.length_nil, partF, TI.agg, Nat.reduceLeDiff, List.take_zero, List.drop_zero, List.drop_succ_cons, List.take_succ_cons, T9, T41, T54, T99, f5, f25, f26, f27, get_last, g2, hf, hw, keyK]
    rw [← hkt]
    exact ⟨d.ents.length - (i + 1), by omega, i + 1, rfl, by omega, (hg.more _).setAt hm _, by rw [get_set_ne _ hne.symm]; exact g1 _, get_set_eq (hx _) _, rfl⟩
  · have hil : d.ents.take i = d.ents := List.take_of_length_le (by omega)
    rw [hil] at sm
    simp only [W_region, W_seq, W_cond, W_block, W_exit, OpsW_nil, OpsW_op, upd_some, upd_none, Br_W2, opF, evalT, evalO, ofConst, binF, intF, reduceCtorEq, Nat.reduceEqDiff, Nat.reduceAdd, Option.map_some, Option.some.injEq, List.getElem?_cons_zero, List.getElem?_cons_succ, Nat.succ_ne_zero, true_and, or_true, or_false, exists_eq_left', exists_and_left, if_true, if_false, decide_false, Bool.false_eq_true, partF, TI.agg, scal, isAgg, cellsOf, Nat.reduceLeDiff, splice, List.take_zero, List.drop_zero, List.nil_append, W_regionD, xrE, T22, T37, T54, T99, T101, f5, f26, f27, ci, resF, resAll, resOne, EndW]
    exact ⟨⟨sid, sm⟩, hg⟩

/-- What load answers. -/
def LoadQ (st0 : Store) (d : Coll) (cls : List Span × Bool) (r : PV) (st' : Store) : Prop := ∃ id m, r = .optr id 7 0 ∧ Tab st' id m d cls ∧ Grows st0 st'
set_option maxHeartbeats 4000000 in
theorem load_spec (n : Nrm) (c : Coll) (e : Int) (hN : Plain EE 72 [.agg n.cells] (.int .i64 e)) (hf : Fits c) (st0 : Store) :
    SpecQ EE 41 [.agg n.cells, .agg c.cells] st0 (LoadQ st0 (dataC c) (clsOf n e)) := by
  refine specQ_of_W ok ok41 (by simp) (by kernel_rfl) ?_
  unfold BodyW
  have e0 : code Go.Proofs.Tryz.f41 = code Go.Proofs.Tryz.f41 := rfl
  conv at e0 => rhs; simp only [code, Go.Proofs.Tryz.f41, Option.getD_some]
  rw [e0]
  clear e0
  have hfd := data_fits hf
  have hkey := data_key c
  have hasc := data_asc c
  have fin : ∀ (fr : Fr) (st : Store), Grows st0 st → fr 5 = .optr (st0.length + 3) 7 0 → fr 3 = .optr (st0.length + 1) 5 0 → st[st0.length + 1]? = some (.cells (dataC c).cells) →
      st[st0.length + 3]? = some (.cells (tabC (dataC c) (clsOf n e) (st0.length + 2))) → st[st0.length + 2]? = some (.map []) →
      W EE 42 (part [true, true, true, true] (code Go.Proofs.Tryz.f41)) fr st (EndW EE [.tmp 4] (LoadQ st0 (dataC c) (clsOf n e))) := by
    intro fr st hg f5 f3 hc sid sm
    refine W.mono _ _ _ (fun e fr' st' q => ?_) fr st (load_loop (dataC c) (clsOf n e) hfd.ents hasc hkey st0 (st0.length + 3) (st0.length + 2) (st0.length + 1) (by omega) (by omega) (by omega) fr st hg f5 f3 hc sid sm)
    exact ⟨q.1, let ⟨v, h1, h2, h3, h4⟩ := q.2; ⟨v, h1, _, _, h2, h3, h4⟩⟩
  have tail : ∀ (fr : Fr) (st : Store), fr 2 = .optr st0.length 3 0 → fr 3 = .optr (st0.length + 1) 5 0 → st = st0 ++ [.cells n.cells, .cells (dataC c).cells] → 
      W EE 42 (part [true, true] (code Go.Proofs.Tryz.f41)) fr st (EndW EE [.tmp 4] (LoadQ st0 (dataC c) (clsOf n e))) := by
    intro fr st f2 f3 hst
    subst hst
    have e1 : part [true, true] (code Go.Proofs.Tryz.f41) = part [true, true] (code Go.Proofs.Tryz.f41) := rfl
    conv at e1 => rhs; simp only [part, code, Go.Proofs.Tryz.f41, Option.getD_some]
    rw [e1]
    clear e1
    have e1 : part [true, true, true, true] (code Go.Proofs.Tryz.f41) = part [true, true, true, true] (code Go.Proofs.Tryz.f41) := rfl
    conv at e1 => rhs; simp only [part, code, Go.Proofs.Tryz.f41, Option.getD_some]
    rw [← e1]
    clear e1
    generalize hd : dataC c = d at *
    simp only [W_region, W_seq, W_cond, OpsW_nil, OpsW_op, upd_some, opF, evalT, evalO, ofConst, Nat.reduceEqDiff, Nat.reduceAdd, Option.map_some, Option.bind_some, List.getElem?_cons_zero, List.getElem?_cons_succ, and_self, if_true, if_false, Bool.false_eq_true, Bool.not_true, List.length_cons, List.length_nil, List.map_cons, List.map_nil, partF, TI.agg, scal, isAgg, cellsOf, List.all_cons, List.all_nil, Bool.or_true, Bool.or_false, Bool.and_self, Nat.reduceLeDiff, Option.isSome_some, splice, fillF, List.take_zero, List.drop_zero, List.drop_succ_cons, List.take_succ_cons, List.nil_append, List.cons_append, T25, T30, T36, T99, T101, f2, f3, Coll.cells, Nrm.cells, List.append_assoc, List.length_append, get_at, get_at0]
    refine OpsW_pl hN rfl rfl (by simp only [upd_some, evalT, evalO, ofConst, Nat.reduceEqDiff, Option.some.injEq, if_true, if_false, List.zip_cons_cons, List.zip_nil_right, List.map_cons, List.map_nil, callArgs, strips, strip_nrm'] <;> rfl) ?_
    by_cases he : e = 0
    · have he' : (e == 0) = true := by simp [he]
      simp only [W_region, OpsW_nil, OpsW_op, upd_some, upd_none, Br_W1, opF, evalT, evalO, ofConst, binF, intF, Nat.reduceEqDiff, Nat.reduceAdd, Option.map_some, List.getElem?_cons_zero, List.getElem?_cons_succ, Nat.succ_ne_zero, and_self, if_true, if_false, Bool.false_eq_true, List.length_cons, List.length_nil, partF, TI.agg, scal, isAgg, cellsOf, Bool.or_false, Nat.reduceLeDiff, splice, List.take_zero, List.drop_zero, List.drop_succ_cons, List.take_succ_cons, List.nil_append, List.cons_append, List.set_cons_zero, List.set_cons_succ, T30, T36, T101, f2, he', get_at, get_at0, set_at]
      refine fin _ _ ?_ ?_ ?_ ?_ ?_ ?_
      · exact ⟨_, rfl⟩
      · simp [upd]
      · simp [upd, f3]
      · rw [get_at]; rfl
      · rw [get_at, clsOf, if_pos he]; rfl
      · rw [get_at]; rfl
    · have he' : (e == 0) = false := by simp [he]
      simp only [W_skip, OpsW_nil, OpsW_op, upd_some, Br_W2, opF, evalO, ofConst, binF, intF, Nat.reduceEqDiff, Option.map_some, if_true, if_false, he']
      refine fin _ _ ?_ ?_ ?_ ?_ ?_ ?_
      · exact ⟨_, rfl⟩
      · simp [upd]
      · simp [upd, f3]
      · rw [get_at]; rfl
      · rw [get_at, clsOf, if_neg he]; rfl
      · rw [get_at]; rfl
  have e1 : part [true, true] (code Go.Proofs.Tryz.f41) = part [true, true] (code Go.Proofs.Tryz.f41) := rfl
  conv at e1 => rhs; simp only [part, code, Go.Proofs.Tryz.f41, Option.getD_some]
  rw [← e1]
  clear e1
  simp only [W_region, W_seq, W_cond, OpsW_nil, OpsW_op, upd_some, opF, evalT, evalO, ofConst, argFr, Nat.reduceEqDiff, Nat.reduceAdd, Option.getD_some, Option.getD_none, Option.map_some, List.getElem?_cons_zero, List.getElem?_cons_succ, List.getElem?_nil, and_self, if_true, if_false, List.length_cons, List.length_nil, partF, TI.agg, scal, isAgg, cellsOf, Bool.or_true, Nat.reduceLeDiff, List.take_zero, List.drop_zero, List.take_succ_cons, List.nil_append, List.cons_append, T25, T36, Coll.cells, Nrm.cells, List.append_assoc, List.length_append, get_at]
  refine OpsW_pl (check_plain c hf) rfl rfl (by simp only [upd_some, evalT, evalO, ofConst, argFr, Nat.reduceEqDiff, Option.getD_none, Option.some.injEq, List.getElem?_cons_succ, List.getElem?_nil, if_true, if_false, List.zip_cons_cons, List.zip_nil_right, List.map_cons, List.map_nil, callArgs, strips, strip_coll'] <;> rfl) ?_
  by_cases h : collErr c = 0
  · have h' : (collErr c != 0) = false := by simp [h]
    simp only [W_skip, OpsW_nil, OpsW_op, upd_some, Br_W2, opF, evalO, ofConst, argFr, binF, intF, Nat.reduceEqDiff, Option.getD_none, Option.map_some, List.getElem?_cons_succ, List.getElem?_nil, if_true, if_false, h']
    exact tail _ _ (by simp [upd]) (by simp [upd]) (by rw [dataC, if_pos h]; simp [Coll.cells, Nrm.cells])
  · have h' : (collErr c != 0) = true := by simp [h]
    simp only [W_region, OpsW_nil, OpsW_op, upd_some, upd_none, Br_W1, opF, evalT, evalO, ofConst, argFr, binF, intF, Nat.reduceEqDiff, Nat.reduceAdd, Option.getD_none, Option.map_some, Option.bind_some, List.getElem?_cons_zero, List.getElem?_cons_succ, List.getElem?_nil, and_self, if_true, if_false, Bool.false_eq_true, Bool.not_true, List.length_cons, List.length_nil, List.map_cons, List.map_nil, scal, isAgg, cellsOf, List.all_cons, List.all_nil, Bool.or_true, Bool.or_false, Bool.and_self, Nat.reduceLeDiff, Option.isSome_some, splice, fillF, List.take_zero, List.drop_zero, List.drop_succ_cons, List.take_succ_cons, List.nil_append, List.cons_append, List.set_cons_zero, List.set_cons_succ, T3, T22, T23, T25, h', get_at, set_at]
    exact tail _ _ (by simp [upd]) (by simp [upd]) (by rw [dataC, if_neg h]; simp [Coll.cells, Nrm.cells, dflt, entR, grpR, tk])
end Go.Pv.Ct
end
section
namespace Go.Pv.Ct
open Go.Pv
set_option maxRecDepth 20000

theorem nan_plain (a : Int) : Plain EE 114 [.int .i64 a] (.bool false) := by
  refine plain_of_W ok ok114 (by simp) ?_
  unfold BodyW
  have e0 : code Go.Proofs.Tryz.f114 = code Go.Proofs.Tryz.f114 := rfl
  conv at e0 => rhs; simp only [code, Go.Proofs.Tryz.f114, Option.getD_some]
  rw [e0]
  clear e0
  have h : (a != a) = false := by simp
  simp only [W_region, W_seq, W_ret, OpsW_nil, OpsW_op, upd_some, opF, evalT, evalO, ofConst, argFr, binF, intF, reduceCtorEq, Nat.reduceEqDiff, Option.getD_some, Option.map_some, Option.some.injEq, List.getElem?_cons_zero, true_and, or_true, exists_eq_left', if_true, if_false, h, resF, resAll, resOne]
  exact ⟨1, pub_bool _ _ _⟩
theorem cmp_plain (a b : Int) : Plain EE 81 [.int .i64 a, .int .i64 b] (.int .i64 (order a b)) := by
  refine plain_of_W ok ok81 (by simp) ?_
  unfold BodyW
  have e0 : code Go.Proofs.Tryz.f81 = code Go.Proofs.Tryz.f81 := rfl
  conv at e0 => rhs; simp only [code, Go.Proofs.Tryz.f81, Option.getD_some]
  rw [e0]
  clear e0
  simp only [W_region, W_seq, W_cond, W_ret, OpsW_nil, OpsW_op, upd_some, opF, evalT, evalO, ofConst, argFr, binF, intF, reduceCtorEq, Nat.reduceEqDiff, Option.getD_some, List.getElem?_cons_zero, true_and, or_true, if_true, if_false]
  refine OpsW_pl (nan_plain a) rfl rfl (by simp only [upd_some, evalT, evalO, ofConst, argFr, Nat.reduceEqDiff, Option.getD_none, List.getElem?_cons_succ, List.getElem?_nil, if_true, if_false, List.zip_cons_cons, List.zip_nil_right, List.map_cons, List.map_nil, callArgs, strips, strip_int] <;> rfl) ?_
  simp only [OpsW_nil, OpsW_op, upd_some, opF, evalT, evalO, argFr, Nat.reduceEqDiff, Option.getD_some, Option.getD_none, List.getElem?_cons_zero, List.getElem?_cons_succ, List.getElem?_nil, if_true, if_false]
  refine OpsW_pl (nan_plain b) rfl rfl (by simp only [upd_some, evalT, evalO, ofConst, argFr, Nat.reduceEqDiff, Option.getD_none, List.getElem?_cons_succ, List.getElem?_nil, if_true, if_false, List.zip_cons_cons, List.zip_nil_right, List.map_cons, List.map_nil, callArgs, strips, strip_int] <;> rfl) ?_
  unfold order
  by_cases h1 : a < b
  · simp only [W_skip, W_region, W_seq, W_ret, OpsW_nil, OpsW_op, upd_some, Br_W1, Br_W2, opF, evalT, evalO, ofConst, argFr, reduceCtorEq, Nat.reduceEqDiff, Option.getD_some, Option.getD_none, Option.map_some, Option.some.injEq, List.getElem?_cons_zero, List.getElem?_cons_succ, List.getElem?_nil, true_and, or_true, exists_eq_left', if_true, if_false, decide_true, h1, resF, resAll, resOne]
    exact ⟨1, pub_int _ _ _ _⟩
  by_cases h2 : a > b
  · simp only [W_skip, W_region, W_seq, W_ret, OpsW_nil, OpsW_op, upd_some, Br_W1, Br_W2, opF, evalT, evalO, ofConst, argFr, reduceCtorEq, Nat.reduceEqDiff, Option.getD_some, Option.getD_none, Option.map_some, Option.some.injEq, List.getElem?_cons_zero, List.getElem?_cons_succ, List.getElem?_nil, true_and, or_true, exists_eq_left', if_true, if_false, decide_true, decide_false, h1, h2, resF, resAll, resOne]
    exact ⟨1, pub_int _ _ _ _⟩
  · simp only [W_skip, OpsW_nil, OpsW_op, upd_some, Br_W2, opF, evalT, evalO, argFr, reduceCtorEq, Nat.reduceEqDiff, Option.getD_some, Option.getD_none, Option.map_some, Option.some.injEq, List.getElem?_cons_zero, List.getElem?_cons_succ, List.getElem?_nil, exists_eq_left', if_true, if_false, decide_false, h1, h2, resF, resAll, resOne]
    exact ⟨1, pub_int _ _ _ _⟩

/-! ### Binary search -/
/-- A function value that answers by an index, and leaves the store as it was. -/
def AtOk (E : Env) (f : FuncId) (caps : List PV) (n : Nat) (P : Nat → Bool) (st0 : Store) : Prop :=
  E.pl f = false ∧ ∀ i : Nat, i < n → SpecQ E f ([.int .i64 i] ++ caps) st0 fun r st' => r = .bool (P i) ∧ st' = st0
theorem u64_id {n : Int} (h0 : 0 ≤ n) (h1 : n < 18446744073709551616) : IntKind.u64.wrap n = n := by
  simp [IntKind.wrap, IntKind.bits, IntKind.signed]; omega
theorem mid_arith {a b : Nat} (h : a < b) (hb : b < 4611686018427387904) : IntKind.i64.wrap ((IntKind.u64.wrap (IntKind.i64.wrap ((a : Int) + (b : Int)))).fdiv (2 ^ 1)) = (((a + b) / 2 : Nat) : Int) := by
  rw [wrap_small (n := (a : Int) + b) (by omega) (by omega), u64_id (by omega) (by omega), Int.fdiv_eq_ediv_of_nonneg _ (by decide)]
  have h3 : ((a : Int) + b) / 2 ^ 1 = (((a + b) / 2 : Nat) : Int) := by omega
  rw [h3, wrap_small (by omega) (by omega)]
set_option maxHeartbeats 4000000 in
theorem search_spec (n : Nat) (f : FuncId) (caps : List PV) (P : Nat → Bool) (st0 : Store) (hp : AtOk EE f caps n P st0) (hn : n < 4611686018427387904) (mono : ∀ j k, j ≤ k → k < n → P j = true → P k = true) :
    SpecQ EE 110 [.int .i64 n, .fn f caps] st0 fun r st' => st' = st0 ∧ ∃ i : Nat, i ≤ n ∧ r = .int .i64 i ∧ (∀ j, j < i → P j = false) ∧ ∀ j, i ≤ j → j < n → P j = true := by
  obtain ⟨hpl, hpr⟩ := hp
  refine specQ_of_W ok ok110 (by simp) (by kernel_rfl) ?_
  unfold BodyW
  have e0 : code Go.Proofs.Tryz.f110 = code Go.Proofs.Tryz.f110 := rfl
  conv at e0 => rhs; simp only [code, Go.Proofs.Tryz.f110, Option.getD_some]
  rw [e0]
  clear e0
  simp only [W_region, W_seq, W_block, W_ret, OpsW_nil, OpsW_op, upd_some, opF, evalT, evalO, ofConst, argFr, reduceCtorEq, Nat.reduceEqDiff, Option.getD_some, List.getElem?_cons_zero, true_and, or_true, or_false, if_true, if_false]
  refine W_loop (fun m fr st => ∃ (a b : Nat), fr 1 = .fn f caps ∧ fr 5 = .int .i64 a ∧ fr 6 = .int .i64 b ∧ st = st0 ∧ a ≤ b ∧ b ≤ n ∧ (∀ j, j < a → P j = false) ∧ (∀ j, b ≤ j → j < n → P j = true) ∧ m = b - a) ?_ n _ _
    ⟨0, n, by simp [upd, argFr], by simp [upd], by simp [upd], rfl, by omega, by omega, by omega, by omega, by omega⟩
  rintro m fr st ⟨a, b, f1, f5, f6, rfl, hab, hb, ha1, hb1, rfl⟩
  by_cases c : (a : Int) < (b : Int)
  · have hm := mid_arith (a := a) (b := b) (by omega) (by omega)
    have hmid : (a + b) / 2 < b ∧ a ≤ (a + b) / 2 := by omega
    obtain ⟨r, st1, hs, rfl, rfl⟩ := hpr ((a + b) / 2) (by omega)
    have hw : IntKind.i64.wrap ((((a + b) / 2 : Nat) : Int) + 1) = (((a + b) / 2 + 1 : Nat) : Int) := by rw [wrap_small (by omega) (by omega)]; rfl
    have hsh : ¬ (1 : Int) < 0 := by decide
    have hmin : min (1 : Int).toNat IntKind.u64.bits = 1 := by decide
    simp only [W_skip, W_region, W_seq, W_cond, W_block, OpsW_nil, OpsW_op, upd_some, Br_W1, opF, evalT, evalO, ofConst, binF, intF, Nat.reduceEqDiff, Option.map_some, exists_and_left, if_true, if_false, decide_true, T3, T161, f1, f5, f6, c, convF, shiftF, hsh, hmin, hm]
    refine OpsW_sp hs (by simp only [upd_some, evalO, Nat.reduceEqDiff, if_true, if_false] <;> rfl) hpl rfl (by simp only [upd_some, evalT, evalO, ofConst, Nat.reduceEqDiff, if_true, if_false, List.zip_cons_cons, List.zip_nil_right, List.map_cons, List.map_nil, List.nil_append, List.cons_append, callArgs] <;> rfl) ?_
    rcases Bool.eq_false_or_eq_true (P ((a + b) / 2)) with e | e
    · simp only [W_region, OpsW_nil, OpsW_op, upd_some, Br_W2, opF, evalT, evalO, unF, Nat.reduceEqDiff, Option.map_some, true_and, if_true, if_false, Bool.not_true, f1, f5, f6, e]
      exact ⟨(a + b) / 2 - a, by omega, a, rfl, (a + b) / 2, rfl, by omega, by omega, ha1, fun j h1 h2 => mono _ j h1 h2 e, rfl⟩
    · simp only [W_region, OpsW_nil, OpsW_op, upd_some, Br_W1, opF, evalT, evalO, ofConst, binF, intF, unF, Nat.reduceEqDiff, Option.map_some, true_and, if_true, if_false, Bool.not_false, f1, f5, f6, e, hw]
      refine ⟨b - ((a + b) / 2 + 1), by omega, (a + b) / 2 + 1, rfl, b, rfl, by omega, hb, fun j hj => ?_, hb1, rfl⟩
      cases hq : P j with
      | false => rfl
      | true => rw [mono j _ (by omega) (by omega) hq] at e; cases e
  · have : a = b := by omega
    subst this
    simp only [W_region, W_seq, W_cond, W_block, W_exit, OpsW_nil, OpsW_op, upd_some, Br_W2, opF, evalT, evalO, ofConst, binF, intF, Nat.reduceEqDiff, Option.map_some, Option.some.injEq, true_and, exists_eq_left', exists_and_left, if_true, if_false, decide_false, f5, f6, c, resF, resAll, resOne]
    exact ⟨a, hb, rfl, ha1, hb1⟩

/-! ### Classes -/
/-- The class of a number. -/
def classL (l : List Span) (c : Int) : Int := if ordErr l = 0 then (match l.find? fun s => decide (s.lo ≤ c) && decide (c ≤ s.hi) with | some s => s.v | none => 0) else 0
theorem ord_ok {l : List Span} (h : ordErr l = 0) : (∀ s ∈ l, spBad s = false) ∧ l.Pairwise fun a b => a.hi < b.lo := by
  unfold ordErr at h
  split at h
  · cases h
  · rename_i h1
    have h1 : l.any spBad = false := by simpa using h1
    split at h
    · cases h
    · rename_i h2
      have h2 : spOrd l = false := by simpa using h2
      have bad : ∀ s ∈ l, spBad s = false := fun s hs => by have := List.any_eq_false.1 h1 s hs; simpa using this
      refine ⟨bad, ?_⟩
      have adj : ∀ i (hi : i + 1 < l.length), spAdj l[i] l[i + 1] = false ∧ spOrd (l.drop (i + 1)) = false := by
        intro i
        induction i with
        | zero =>
          intro hi
          have := spOrd_drop (l := l) (i := 0) hi
          rw [List.drop_zero, h2] at this
          have := this.symm
          rw [Bool.or_eq_false_iff] at this
          exact this
        | succ i ih =>
          intro hi
          have hd := (ih (by omega)).2
          rw [spOrd_drop hi, Bool.or_eq_false_iff] at hd
          exact hd
      have good : ∀ s ∈ l, s.lo ≤ s.hi := fun s hs => by
        have := bad s hs
        simp only [spBad, Bool.or_eq_false_iff, decide_eq_false_iff_not] at this
        omega
      -- strictly ascending: adjacent ones, and each one's own ends
      have key : l.Pairwise fun a b => a.hi < b.lo ∧ a.lo ≤ a.hi ∧ b.lo ≤ b.hi := by
        refine pairwise_of_adj (R := fun a b : Span => a.hi < b.lo ∧ a.lo ≤ a.hi ∧ b.lo ≤ b.hi) (fun a b c h1 h2 => ⟨by omega, h1.2.1, h2.2.2⟩) (fun i hi => ?_)
        have := (adj i hi).1
        simp only [spAdj, Bool.or_eq_false_iff, decide_eq_false_iff_not] at this
        exact ⟨by omega, good _ (List.getElem_mem _), good _ (List.getElem_mem _)⟩
      exact key.imp (fun h => h.1)
theorem class_at {l : List Span} (h : ordErr l = 0) {c : Int} {i : Nat} (hi : i ≤ l.length) (h1 : ∀ j (hj : j < l.length), j < i → l[j].hi < c) (h2 : ∀ j (hj : j < l.length), i ≤ j → c ≤ l[j].hi) :
    classL l c = match l[i]? with | some s => if s.lo ≤ c then s.v else 0 | none => 0 := by
  obtain ⟨bad, asc⟩ := ord_ok h
  unfold classL
  rw [if_pos h]
  by_cases hil : i < l.length
  · rw [List.getElem?_eq_getElem hil]
    simp only
    by_cases hlo : l[i].lo ≤ c
    · have : l.find? (fun s => decide (s.lo ≤ c) && decide (c ≤ s.hi)) = some l[i] := by
        rw [List.find?_eq_some_iff_getElem]
        refine ⟨by simp [hlo, h2 i hil (Nat.le_refl _)], i, hil, rfl, fun j hj => ?_⟩
        have := h1 j (by omega) hj
        simp; omega
      rw [this, if_pos hlo]
    · have : l.find? (fun s => decide (s.lo ≤ c) && decide (c ≤ s.hi)) = none := by
        rw [List.find?_eq_none]
        intro s hs
        obtain ⟨j, hj, rfl⟩ := List.getElem_of_mem hs
        rcases Nat.lt_trichotomy j i with q | q | q
        · have := h1 j hj q; simp; omega
        · subst q; simp; omega
        · have a1 := List.pairwise_iff_getElem.1 asc i j hil hj q
          have a2 := h2 i hil (Nat.le_refl _)
          simp; omega
      rw [this, if_neg hlo]
  · rw [List.getElem?_eq_none (by omega)]
    have : l.find? (fun s => decide (s.lo ≤ c) && decide (c ≤ s.hi)) = none := by
      rw [List.find?_eq_none]
      intro s hs
      obtain ⟨j, hj, rfl⟩ := List.getElem_of_mem hs
      have := h1 j hj (by omega)
      simp; omega
    rw [this]
theorem fn1_spec (c : Int) (st : Store) : Spec EE 108 [.int .i64 c] st (.int .i64 0) st := by
  refine spec_of_W ok ok108 (by simp) ?_
  unfold BodyW
  have e0 : code Go.Proofs.Tryz.f108 = code Go.Proofs.Tryz.f108 := rfl
  conv at e0 => rhs; simp only [code, Go.Proofs.Tryz.f108, Option.getD_some]
  rw [e0]
  clear e0
  simp only [W_region, W_seq, W_ret, OpsW_nil, OpsW_op, upd_some, opF, evalT, evalO, ofConst, reduceCtorEq, Option.map_some, Option.some.injEq, true_and, or_true, exists_eq_left', if_true, resF, resAll, resOne]
theorem fn3_spec (l : List Span) (t : Tok) (c : Int) (i il ic : Nat) (hi : i < l.length) (st : Store) (hl : st[il]? = some (.cells [.sl 3 (spR l) t])) (hc : st[ic]? = some (.cells [.int .i64 c])) :
    Spec EE 111 [.int .i64 i, .optr il 1 0, .optr ic 1 0] st (.bool (decide (l[i].hi ≥ c))) st := by
  refine spec_of_W ok ok111 (by simp) ?_
  unfold BodyW
  have e0 : code Go.Proofs.Tryz.f111 = code Go.Proofs.Tryz.f111 := rfl
  conv at e0 => rhs; simp only [code, Go.Proofs.Tryz.f111, Option.getD_some]
  rw [e0]
  clear e0
  have ga := spR_get l i hi
  simp only [W_region, W_seq, W_ret, OpsW_nil, OpsW_op, upd_some, opF, evalT, evalO, ofConst, argFr, binF, intF, idxN_nat, reduceCtorEq, Nat.reduceEqDiff, Nat.reduceAdd, Option.getD_some, Option.map_some, Option.some.injEq, List.getElem?_cons_zero, List.getElem?_cons_succ, Nat.succ_ne_zero, and_self, true_and, or_true, exists_eq_left', if_true, if_false, Bool.false_eq_true, List.length_cons, List.length_nil, partF, TI.agg, Nat.reduceLeDiff, List.take_zero, List.drop_zero, List.drop_succ_cons, List.take_succ_cons, W_regionD, xrE, T3, T30, T66, hl, hc, ga, resF, resAll, resOne]
set_option maxHeartbeats 4000000 in
theorem fn2_spec (l : List Span) (t : Tok) (c : Int) (il : Nat) (hl0 : l.length < 4611686018427387904) (ho : ordErr l = 0) (st : Store) (hl : st[il]? = some (.cells [.sl 3 (spR l) t])) :
    SpecQ EE 109 [.int .i64 c, .optr il 1 0] st fun r st' => r = .int .i64 (classL l c) ∧ Grows st st' := by
  refine specQ_of_W ok ok109 (by simp) (by kernel_rfl) ?_
  unfold BodyW
  have e0 : code Go.Proofs.Tryz.f109 = code Go.Proofs.Tryz.f109 := rfl
  conv at e0 => rhs; simp only [code, Go.Proofs.Tryz.f109, Option.getD_some]
  rw [e0]
  clear e0
  have h1 : ∀ x, (st ++ [x])[il]? = some (.cells [.sl 3 (spR l) t]) := fun x => get_app hl
  obtain ⟨bad, asc⟩ := ord_ok ho
  have hs0 : AtOk EE 111 [.optr il 1 0, .optr st.length 1 0] l.length (fun i => match l[i]? with | some s => decide (s.hi ≥ c) | none => false) (st ++ [.cells [.int .i64 c]]) := by
    refine ⟨rfl, fun i hi => ⟨_, _, fn3_spec l t c i il st.length hi _ (h1 _) (get_last _ _), ?_, rfl⟩⟩
    simp only [List.getElem?_eq_getElem hi]
  obtain ⟨r, st1, hs, rfl, i, hi, rfl, p1, p2⟩ := search_spec l.length 111 _ _ _ hs0 hl0 (fun j k hjk hk => by
    rw [List.getElem?_eq_getElem hk, List.getElem?_eq_getElem (Nat.lt_of_le_of_lt hjk hk)]
    simp only [ge_iff_le, decide_eq_true_eq]
    intro h
    rcases Nat.lt_or_eq_of_le hjk with q | q
    · have a1 := List.pairwise_iff_getElem.1 asc j k (by omega) hk q
      have a2 := bad _ (List.getElem_mem hk)
      simp only [spBad, Bool.or_eq_false_iff, decide_eq_false_iff_not] at a2
      omega
    · subst q; exact h)
  have hcl := class_at ho (c := c) hi (fun j hj hji => by
    have := p1 j hji
    rw [List.getElem?_eq_getElem hj] at this
    simp only [decide_eq_false_iff_not] at this
    omega) (fun j hj hij => by
    have := p2 j hij hj
    rw [List.getElem?_eq_getElem hj] at this
    simp only [ge_iff_le, decide_eq_true_eq] at this
    omega)
  simp only [W_region, W_seq, W_cond, W_ret, OpsW_nil, OpsW_op, OpsW_guard, upd_some, opF, evalT, evalO, ofConst, argFr, binF, intF, reduceCtorEq, Nat.reduceEqDiff, Nat.reduceAdd, Option.getD_some, Option.getD_none, Option.map_some, Option.bind_some, List.getElem?_toArray, List.getElem?_cons_zero, List.getElem?_cons_succ, List.getElem?_nil, and_self, true_and, or_true, if_true, if_false, Bool.false_eq_true, List.length_cons, List.length_nil, callB, List.zip_cons_cons, List.zip_nil_right, List.map_cons, List.map_nil, List.size_toArray, partF, TI.agg, scal, isAgg, cellsOf, Bool.or_false, Nat.reduceLeDiff, List.take_zero, List.drop_zero, List.take_succ_cons, W_regionD, xrE, T3, T30, h1, spR_length]
  refine OpsW_sp hs (by simp only [evalO] <;> rfl) rfl rfl (by simp only [upd_some, evalT, evalO, ofConst, argFr, Nat.reduceEqDiff, Option.getD_none, List.getElem?_cons_succ, List.getElem?_nil, if_true, if_false, List.zip_cons_cons, List.zip_nil_right, List.map_cons, List.map_nil, List.nil_append, List.cons_append, callArgs] <;> rfl) ?_
  by_cases ci : (i : Int) < (l.length : Int)
  · have ia : i < l.length := by omega
    have ga := spR_get l i ia
    rw [List.getElem?_eq_getElem ia] at hcl
    simp only at hcl
    by_cases lo : l[i].lo ≤ c
    · rw [if_pos lo] at hcl
      simp only [W_region, W_seq, W_ret, OpsW_nil, OpsW_op, OpsW_guard, upd_some, Br_W1, Br_O1, opF, evalT, evalO, ofConst, argFr, binF, intF, idxN_nat, reduceCtorEq, Nat.reduceEqDiff, Nat.reduceAdd, Option.getD_some, Option.getD_none, Option.map_some, Option.bind_some, Option.some.injEq, List.getElem?_toArray, List.getElem?_cons_zero, List.getElem?_cons_succ, List.getElem?_nil, Nat.succ_ne_zero, true_and, or_true, exists_eq_left', if_true, if_false, decide_true, Bool.false_eq_true, beq_self_eq_true, List.length_cons, List.length_nil, partF, TI.agg, Nat.reduceLeDiff, List.take_zero, List.drop_zero, List.drop_succ_cons, List.take_succ_cons, T3, T30, T66, h1, spR_length, ci, ga, get_last, lo, resF, resAll, resOne]
      exact ⟨by rw [hcl], ⟨_, rfl⟩⟩
    · rw [if_neg lo] at hcl
      simp only [W_skip, OpsW_nil, OpsW_op, OpsW_guard, upd_some, Br_W2, Br_O1, opF, evalT, evalO, ofConst, argFr, binF, intF, idxN_nat, Nat.reduceEqDiff, Nat.reduceAdd, Option.getD_some, Option.getD_none, Option.map_some, Option.bind_some, Option.some.injEq, List.getElem?_toArray, List.getElem?_cons_zero, List.getElem?_cons_succ, List.getElem?_nil, Nat.succ_ne_zero, exists_eq_left', if_true, if_false, decide_true, decide_false, Bool.false_eq_true, beq_self_eq_true, List.length_cons, List.length_nil, partF, TI.agg, Nat.reduceLeDiff, List.take_zero, List.drop_zero, List.take_succ_cons, T3, T30, T66, h1, spR_length, ci, ga, get_last, lo, resF, resAll, resOne]
      exact ⟨by rw [hcl], ⟨_, rfl⟩⟩
  · rw [List.getElem?_eq_none (by omega)] at hcl
    simp only [W_skip, OpsW_nil, OpsW_op, OpsW_guard, upd_some, Br_W2, Br_O2, opF, evalT, evalO, ofConst, argFr, Nat.reduceEqDiff, Nat.reduceAdd, Option.getD_some, Option.getD_none, Option.map_some, Option.bind_some, Option.some.injEq, List.getElem?_toArray, List.getElem?_cons_zero, List.getElem?_cons_succ, List.getElem?_nil, exists_eq_left', if_true, if_false, decide_false, Bool.false_eq_true, Bool.false_beq, Bool.not_true, List.length_cons, List.length_nil, Nat.reduceLeDiff, List.take_zero, List.drop_zero, List.take_succ_cons, h1, spR_length, ci, resF, resAll, resOne]
    exact ⟨by rw [hcl], ⟨_, rfl⟩⟩
/-- The function that gives classes: how it answers, from any later store on. -/
def FindsClass (E : Env) (l : List Span) (f : FuncId) (caps : List PV) (st0 : Store) : Prop :=
  E.pl f = false ∧ ∀ c st, Grows st0 st → SpecQ E f ([.int .i64 c] ++ caps) st fun r st' => r = .int .i64 (classL l c) ∧ Grows st st'
theorem finder_spec (l : List Span) (t : Tok) (ht : stripT t = t) (hl : l.length < 4611686018427387904) (st0 : Store) :
    SpecQ EE 77 [.sl 3 (spR l) t] st0 fun r st' => Grows st0 st' ∧ ∃ f caps, r = .fn f caps ∧ FindsClass EE l f caps st' := by
  refine specQ_of_W ok ok77 (by simp) (by kernel_rfl) ?_
  unfold BodyW
  have e0 : code Go.Proofs.Tryz.f77 = code Go.Proofs.Tryz.f77 := rfl
  conv at e0 => rhs; simp only [code, Go.Proofs.Tryz.f77, Option.getD_some]
  rw [e0]
  clear e0
  simp only [W_region, W_seq, W_cond, W_ret, OpsW_nil, OpsW_op, upd_some, opF, evalT, evalO, ofConst, argFr, reduceCtorEq, Nat.reduceEqDiff, Nat.reduceAdd, Option.getD_some, Option.getD_none, Option.map_some, List.getElem?_cons_zero, List.getElem?_cons_succ, List.getElem?_nil, and_self, true_and, or_true, if_true, if_false, Bool.false_eq_true, List.length_cons, List.length_nil, List.map_cons, List.map_nil, partF, TI.agg, scal, isAgg, cellsOf, Bool.or_false, Nat.reduceLeDiff, List.take_zero, List.drop_zero, List.take_succ_cons, T30, get_last]
  refine OpsW_pl (ordCheck_plain l t (by omega)) rfl rfl (by simp only [upd_some, evalT, evalO, ofConst, argFr, Nat.reduceEqDiff, Option.getD_none, List.getElem?_cons_succ, List.getElem?_nil, if_true, if_false, List.zip_cons_cons, List.zip_nil_right, List.map_cons, List.map_nil, callArgs, strips, strip_sl, ht] <;> rfl) ?_
  by_cases h : ordErr l = 0
  · have h' : (ordErr l != 0) = false := by simp [h]
    simp only [W_skip, OpsW_nil, OpsW_op, upd_some, Br_W2, opF, evalO, ofConst, argFr, binF, intF, Nat.reduceEqDiff, Option.getD_none, Option.map_some, Option.some.injEq, List.getElem?_cons_succ, List.getElem?_nil, exists_eq_left', if_true, if_false, h', Array.isEmpty_empty, resF, resAll, resOne]
    refine ⟨⟨_, rfl⟩, _, _, rfl, rfl, fun c st hg => ?_⟩
    exact fn2_spec l t c st0.length hl h st (hg.get (get_last _ _))
  · have h' : (ordErr l != 0) = true := by simp [h]
    simp only [W_region, W_seq, W_ret, OpsW_nil, OpsW_op, upd_some, Br_W1, opF, evalT, evalO, ofConst, argFr, binF, intF, reduceCtorEq, Nat.reduceEqDiff, Option.getD_none, Option.map_some, Option.some.injEq, List.getElem?_cons_succ, List.getElem?_nil, true_and, or_true, exists_eq_left', if_true, if_false, h', resF, resAll, resOne]
    refine ⟨⟨_, rfl⟩, _, _, rfl, rfl, fun c st hg => ?_⟩
    exact ⟨_, _, fn1_spec c st, by rw [classL, if_neg h], .refl _⟩
theorem class_plain (l : List Span) (t : Tok) (ht : stripT t = t) (c : Int) (hl : l.length < 4611686018427387904) : Plain EE 104 [.sl 3 (spR l) t, .int .i64 c] (.int .i64 (classL l c)) := by
  refine plain_of_W ok ok104 (by simp) ?_
  unfold BodyW
  have e0 : code Go.Proofs.Tryz.f104 = code Go.Proofs.Tryz.f104 := rfl
  conv at e0 => rhs; simp only [code, Go.Proofs.Tryz.f104, Option.getD_some]
  rw [e0]
  clear e0
  simp only [W_region, W_seq, W_ret, OpsW_nil, OpsW_op, upd_some, opF, evalT, evalO, ofConst, argFr, reduceCtorEq, Option.getD_some, List.getElem?_cons_zero, true_and, or_true, if_false]
  obtain ⟨r, st1, hs, hg, f, caps, rfl, hpl, hf⟩ := finder_spec l t ht hl []
  refine OpsW_sp hs (by simp only [evalO] <;> rfl) rfl rfl (by simp only [upd_some, evalT, evalO, ofConst, argFr, Nat.reduceEqDiff, Option.getD_none, List.getElem?_cons_succ, List.getElem?_nil, if_true, if_false, List.zip_cons_cons, List.zip_nil_right, List.map_cons, List.map_nil, List.nil_append, List.cons_append, callArgs] <;> rfl) ?_
  simp only [OpsW_op, upd_some, opF, evalT, evalO, argFr, Nat.reduceEqDiff, Option.getD_some, List.getElem?_cons_zero, List.getElem?_cons_succ, if_false]
  obtain ⟨r, st2, hs2, rfl, hg2⟩ := hf c st1 (.refl _)
  refine OpsW_sp hs2 (by simp only [upd_some, evalO, argFr, Nat.reduceEqDiff, Option.getD_none, List.getElem?_cons_succ, List.getElem?_nil, if_true, if_false] <;> rfl) hpl rfl (by simp only [upd_some, evalT, evalO, ofConst, argFr, Nat.reduceEqDiff, Option.getD_none, List.getElem?_cons_succ, List.getElem?_nil, if_true, if_false, List.zip_cons_cons, List.zip_nil_right, List.map_cons, List.map_nil, List.nil_append, List.cons_append, callArgs] <;> rfl) ?_
  simp only [OpsW_nil, OpsW_op, upd_some, opF, evalT, evalO, argFr, Nat.reduceEqDiff, Option.getD_none, Option.map_some, Option.some.injEq, List.getElem?_cons_succ, List.getElem?_nil, exists_eq_left', if_true, if_false, resF, resAll, resOne]
  exact ⟨1, pub_int _ _ _ _⟩
theorem starter_plain (l : List Span) (t : Tok) (ht : stripT t = t) (c : Int) (hl : l.length < 4611686018427387904) : Plain EE 103 [.sl 3 (spR l) t, .int .i64 c] (.bool (classL l c == 0)) := by
  refine plain_of_W ok ok103 (by simp) ?_
  unfold BodyW
  have e0 : code Go.Proofs.Tryz.f103 = code Go.Proofs.Tryz.f103 := rfl
  conv at e0 => rhs; simp only [code, Go.Proofs.Tryz.f103, Option.getD_some]
  rw [e0]
  clear e0
  simp only [W_region, W_seq, W_ret, OpsW_nil, OpsW_op, upd_some, opF, evalT, evalO, ofConst, argFr, reduceCtorEq, Nat.reduceEqDiff, Option.getD_some, List.getElem?_cons_zero, List.getElem?_cons_succ, true_and, or_true, if_false]
  refine OpsW_pl (class_plain l t ht c hl) rfl rfl (by simp only [upd_some, evalT, evalO, ofConst, argFr, Nat.reduceEqDiff, Option.getD_none, List.getElem?_cons_succ, List.getElem?_nil, if_true, if_false, List.zip_cons_cons, List.zip_nil_right, List.map_cons, List.map_nil, callArgs, strips, strip_sl, strip_int, ht] <;> rfl) ?_
  simp only [OpsW_nil, OpsW_op, upd_some, opF, evalT, evalO, ofConst, argFr, binF, intF, Nat.reduceEqDiff, Option.getD_none, Option.map_some, Option.some.injEq, List.getElem?_cons_succ, List.getElem?_nil, exists_eq_left', if_true, if_false, resF, resAll, resOne]
  exact ⟨1, pub_bool _ _ _⟩
end Go.Pv.Ct
end
section
namespace Go.Proofs
open Go.Shelf
def Tryz.lays106_ren : Go.Shelf.Ren := ⟨fun | 106 => 150 | 213 => 164 | 265 => 174 | n => n, fun | 9 => 9 | 3 => 3 | n => n, fun | n => n⟩
theorem Tryz.lays106 : Go.Proofs.Lays.n106 Tryz.prog Tryz.lays106_ren := {
  mixed := by kernel_rfl
  f106 := Tryz.func150.trans (congrArg some (by kernel_rfl))
  f213 := Tryz.func164.trans (congrArg some (by kernel_rfl))
  f265 := Tryz.func174.trans (congrArg some (by kernel_rfl))
  t3 := Tryz.underlying3
  a3 := Tryz.isAgg3
  z3 := Tryz.sizeOf3
  v3 := Tryz.zeroValue3
  t9 := Tryz.underlying9
  a9 := Tryz.isAgg9
  z9 := Tryz.sizeOf9
  v9 := Tryz.zeroValue9 }
open Go.RowKit in
/-- strings.Compare: "Compare returns an integer comparing two strings lexicographically. The result will be 0 if a == b, -1 if a < b, and +1 if a > b.": IT RETURNS 'Lib.compareBytes a b'; the world is as it was. (LAID: no walk: one application.) -/
theorem Tryz.strings_Compare (a b : ByteArray) (w : World) :
    Calls Tryz.prog 150 #[.string a, .string b] w fun e w' => e = .returned (.int .i64 (Lib.compareBytes a.data.toList b.data.toList)) ∧ w' = w := Any.strings_Compare Tryz.lays106 a b w
def Tryz.laysGw17_ren : Go.Shelf.Ren := ⟨fun | 17 => 162 | 15 => 173 | 20 => 189 | n => n, fun | 9 => 9 | 23 => 188 | 4 => 4 | 3 => 3 | 0 => 0 | 21 => 21 | n => n, fun | n => n⟩
theorem Tryz.laysGw17 : Go.Proofs.LaysGw.n17 Tryz.prog Tryz.laysGw17_ren := {
  mixed := by kernel_rfl
  f15 := Tryz.func173.trans (congrArg some (by kernel_rfl))
  f17 := Tryz.func162.trans (congrArg some (by kernel_rfl))
  f20 := Tryz.func189.trans (congrArg some (by kernel_rfl))
  t0 := Tryz.underlying0
  a0 := Tryz.isAgg0
  z0 := Tryz.sizeOf0
  v0 := Tryz.zeroValue0
  i0 := by kernel_rfl
  t3 := Tryz.underlying3
  a3 := Tryz.isAgg3
  z3 := Tryz.sizeOf3
  v3 := Tryz.zeroValue3
  i3 := by kernel_rfl
  t4 := Tryz.underlying4
  a4 := Tryz.isAgg4
  z4 := Tryz.sizeOf4
  v4 := Tryz.zeroValue4
  i4 := by kernel_rfl
  t9 := Tryz.underlying9
  a9 := Tryz.isAgg9
  z9 := Tryz.sizeOf9
  v9 := Tryz.zeroValue9
  i9 := by kernel_rfl
  t21 := Tryz.underlying21
  a21 := Tryz.isAgg21
  z21 := Tryz.sizeOf21
  v21 := Tryz.zeroValue21
  i21 := by kernel_rfl
  t23 := Tryz.underlying188
  a23 := Tryz.isAgg188
  z23 := Tryz.sizeOf188
  v23 := Tryz.zeroValue188
  i23 := by kernel_rfl }
open Go.RowKit Go.Lib in
theorem Tryz.strings_ContainsFunc (g : Nat) (lb : Array Value) (eg : ∀ args w, (callFunc g args).run Tryz.prog w = .ok (.enter g args) w) (p : Nat → Bool) (s : ByteArray) (w : World) (hp : PredAt Tryz.prog g lb encR p w) :
    Calls Tryz.prog 162 #[.string s, .func (.func g) #[] lb] w fun e w' => e = .returned (.bool (decide (0 ≤ Lib.idxFunc p true s))) ∧ Below w.heap.size w w' := Any.strings_ContainsFunc Tryz.laysGw17 g lb eg p s w hp
def Tryz.sortRg_ren : Go.Shelf.Ren := ⟨fun | 6 => 151 | 15 => 166 | 14 => 165 | 28 => 183 | 29 => 184 | 20 => 175 | 21 => 176 | 22 => 177 | 23 => 178 | 24 => 179 | 25 => 180 | 26 => 181 | 27 => 182 | 46 => 190 | 47 => 191 | 48 => 192 | 49 => 193 | 50 => 194 | 57 => 197 | n => n, fun | 22 => 32 | 24 => 119 | 25 => 176 | 3 => 3 | 39 => 161 | 0 => 0 | 53 => 206 | 55 => 192 | 4 => 4 | 46 => 200 | 45 => 199 | 50 => 156 | 5 => 5 | 9 => 9 | 66 => 211 | 70 => 215 | 76 => 217 | 77 => 218 | n => n, fun | n => n⟩
theorem Tryz.sortRg : Go.Proofs.SlLaysF0.n6 Tryz.prog Tryz.sortRg_ren := {
  mixed := by kernel_rfl
  f6 := ⟨Tryz.f151.name, by decide, Tryz.func151.trans (congrArg some (by kernel_rfl))⟩
  f14 := ⟨Tryz.f165.name, by decide, Tryz.func165.trans (congrArg some (by kernel_rfl))⟩
  f15 := Tryz.func166.trans (congrArg some (by kernel_rfl))
  f20 := ⟨Tryz.f175.name, by decide, Tryz.func175.trans (congrArg some (by kernel_rfl))⟩
  f21 := ⟨Tryz.f176.name, by decide, Tryz.func176.trans (congrArg some (by kernel_rfl))⟩
  f22 := ⟨Tryz.f177.name, by decide, Tryz.func177.trans (congrArg some (by kernel_rfl))⟩
  f23 := ⟨Tryz.f178.name, by decide, Tryz.func178.trans (congrArg some (by kernel_rfl))⟩
  f24 := ⟨Tryz.f179.name, by decide, Tryz.func179.trans (congrArg some (by kernel_rfl))⟩
  f25 := ⟨Tryz.f180.name, by decide, Tryz.func180.trans (congrArg some (by kernel_rfl))⟩
  f26 := ⟨Tryz.f181.name, by decide, Tryz.func181.trans (congrArg some (by kernel_rfl))⟩
  f27 := ⟨Tryz.f182.name, by decide, Tryz.func182.trans (congrArg some (by kernel_rfl))⟩
  f28 := Tryz.func183.trans (congrArg some (by kernel_rfl))
  f29 := Tryz.func184.trans (congrArg some (by kernel_rfl))
  f46 := ⟨Tryz.f190.name, by decide, Tryz.func190.trans (congrArg some (by kernel_rfl))⟩
  f47 := Tryz.func191.trans (congrArg some (by kernel_rfl))
  f48 := Tryz.func192.trans (congrArg some (by kernel_rfl))
  f49 := ⟨Tryz.f193.name, by decide, Tryz.func193.trans (congrArg some (by kernel_rfl))⟩
  f50 := ⟨Tryz.f194.name, by decide, Tryz.func194.trans (congrArg some (by kernel_rfl))⟩
  f57 := ⟨Tryz.f197.name, by decide, Tryz.func197.trans (congrArg some (by kernel_rfl))⟩
  t0 := Tryz.underlying0
  a0 := Tryz.isAgg0
  z0 := Tryz.sizeOf0
  v0 := Tryz.zeroValue0
  t3 := Tryz.underlying3
  a3 := Tryz.isAgg3
  z3 := Tryz.sizeOf3
  v3 := Tryz.zeroValue3
  t4 := Tryz.underlying4
  a4 := Tryz.isAgg4
  z4 := Tryz.sizeOf4
  v4 := Tryz.zeroValue4
  t5 := Tryz.underlying5
  a5 := Tryz.isAgg5
  z5 := Tryz.sizeOf5
  v5 := Tryz.zeroValue5
  t9 := Tryz.underlying9
  a9 := Tryz.isAgg9
  z9 := Tryz.sizeOf9
  v9 := Tryz.zeroValue9
  t22 := Tryz.underlying32
  a22 := Tryz.isAgg32
  z22 := Tryz.sizeOf32
  v22 := Tryz.zeroValue32
  t25 := Tryz.underlying176
  a25 := Tryz.isAgg176
  z25 := Tryz.sizeOf176
  v25 := Tryz.zeroValue176
  t39 := Tryz.underlying161
  a39 := Tryz.isAgg161
  z39 := Tryz.sizeOf161
  v39 := Tryz.zeroValue161
  t45 := Tryz.underlying199
  a45 := Tryz.isAgg199
  z45 := Tryz.sizeOf199
  v45 := Tryz.zeroValue199
  t46 := Tryz.underlying200
  a46 := Tryz.isAgg200
  z46 := Tryz.sizeOf200
  v46 := Tryz.zeroValue200
  t50 := Tryz.underlying156
  a50 := Tryz.isAgg156
  z50 := Tryz.sizeOf156
  v50 := Tryz.zeroValue156
  t53 := Tryz.underlying206
  a53 := Tryz.isAgg206
  z53 := Tryz.sizeOf206
  v53 := Tryz.zeroValue206
  t55 := Tryz.underlying192
  a55 := Tryz.isAgg192
  z55 := Tryz.sizeOf192
  v55 := Tryz.zeroValue192
  t66 := Tryz.underlying211
  a66 := Tryz.isAgg211
  z66 := Tryz.sizeOf211
  v66 := Tryz.zeroValue211
  t70 := Tryz.underlying215
  a70 := Tryz.isAgg215
  z70 := Tryz.sizeOf215
  v70 := Tryz.zeroValue215
  t76 := Tryz.underlying217
  a76 := Tryz.isAgg217
  z76 := Tryz.sizeOf217
  v76 := Tryz.zeroValue217
  t77 := Tryz.underlying218
  a77 := Tryz.isAgg218
  z77 := Tryz.sizeOf218
  v77 := Tryz.zeroValue218 }
def Tryz.bitsLen_ren : Go.Shelf.Ren := ⟨fun | 125 => 166 | 128 => 183 | 129 => 184 | n => n, fun | 46 => 161 | 3 => 3 | 51 => 206 | 53 => 192 | 4 => 4 | 5 => 5 | 9 => 9 | n => n, fun | n => n⟩
theorem Tryz.bitsLen : Go.Proofs.Lays.n125 Tryz.prog Tryz.bitsLen_ren := {
  mixed := by kernel_rfl
  f125 := Tryz.func166.trans (congrArg some (by kernel_rfl))
  f128 := Tryz.func183.trans (congrArg some (by kernel_rfl))
  f129 := Tryz.func184.trans (congrArg some (by kernel_rfl))
  t3 := Tryz.underlying3
  a3 := Tryz.isAgg3
  z3 := Tryz.sizeOf3
  v3 := Tryz.zeroValue3
  t4 := Tryz.underlying4
  a4 := Tryz.isAgg4
  z4 := Tryz.sizeOf4
  v4 := Tryz.zeroValue4
  t5 := Tryz.underlying5
  a5 := Tryz.isAgg5
  z5 := Tryz.sizeOf5
  v5 := Tryz.zeroValue5
  t9 := Tryz.underlying9
  a9 := Tryz.isAgg9
  z9 := Tryz.sizeOf9
  v9 := Tryz.zeroValue9
  t46 := Tryz.underlying161
  a46 := Tryz.isAgg161
  z46 := Tryz.sizeOf161
  v46 := Tryz.zeroValue161
  t51 := Tryz.underlying206
  a51 := Tryz.isAgg206
  z51 := Tryz.sizeOf206
  v51 := Tryz.zeroValue206
  t53 := Tryz.underlying192
  a53 := Tryz.isAgg192
  z53 := Tryz.sizeOf192
  v53 := Tryz.zeroValue192 }
def Tryz.cmpInt_ren : Go.Shelf.Ren := ⟨fun | 5 => 81 | 7 => 114 | n => n, fun | 22 => 3 | 3 => 3 | 4 => 4 | n => n, fun | n => n⟩
theorem Tryz.cmpInt : Go.Proofs.SlLaysC2.n5 Tryz.prog Tryz.cmpInt_ren := {
  mixed := by kernel_rfl
  f5 := ⟨Tryz.f81.name, by decide, Tryz.func81.trans (congrArg some (by kernel_rfl))⟩
  f7 := ⟨Tryz.f114.name, by decide, Tryz.func114.trans (congrArg some (by kernel_rfl))⟩
  t3 := Tryz.underlying3
  a3 := Tryz.isAgg3
  z3 := Tryz.sizeOf3
  v3 := Tryz.zeroValue3
  t4 := Tryz.underlying4
  a4 := Tryz.isAgg4
  z4 := Tryz.sizeOf4
  v4 := Tryz.zeroValue4
  t22 := Tryz.underlying3
  a22 := Tryz.isAgg3
  z22 := Tryz.sizeOf3
  v22 := Tryz.zeroValue3 }
end Go.Proofs
end
section
namespace Go.Pv.Ct
open Go.Pv Go.RowKit Go.Proofs Go.Lib Go.Sort
set_option maxRecDepth 20000

/-- A step of which is known only that all that lay lies. -/
theorem stp_below {G : Nat → PV} {K : Know} {ι : Nat → Value} {st : Store} {w w' : World} (h : Rel G K ι st w) (hb : Below w.heap.size w w') : Stp G K ι st w K ι st w' := by
  have hx : Rel G K ι st w' := by
    refine ⟨fun a u e => ?_, h.glob, fun id o e => ?_, h.apart, h.gsz.keep fun b hlt _ _ => hb.block b hlt, h.gown⟩
    · rw [World.cell?_of_block (hb.block a.block (h.know_lt e))]; exact h.know a u e
    · exact (h.obj id o e).carry (Ext.refl _ _ _) (fun b hb' => hb.block b (h.owned_lt ⟨id, (List.getElem?_eq_some_iff.1 e).1, hb'⟩)) (fun _ _ _ q => q)
  exact ⟨hx, Ext.refl _ _ _, hb.os, hb.tape, hb.output, hb.size, fun b hlt _ => hb.block b hlt, fun b hq _ => hq, fun _ _ e => .inl e⟩
theorem vs2 {vs : Array Value} (h : vs.size = 2) : ∃ a b, vs = #[a, b] := by
  refine ⟨vs[0], vs[1], ?_⟩
  apply Array.ext
  · simp [h]
  · intro i h1 h2
    match i, h2 with
    | 0, _ => rfl
    | 1, _ => rfl
    | i + 2, h2 => simp at h2; omega

/-- Texts, compared byte by byte. -/
theorem scmp_plain (a b : List UInt8) : Plain EE 150 [.str a, .str b] (.int .i64 (Lib.compareBytes a b)) := by
  refine ⟨ok150.enters, fun K w vs h ha => ?_⟩
  obtain ⟨hs, hv⟩ := ha
  obtain ⟨v0, v1, rfl⟩ := vs2 (vs := vs) (by simpa using hs.symm)
  have e0 := (VRel.tree (ι := fun _ => undef) (st := []) _ _ (hv 0 _ v0 rfl rfl)).strV
  have e1 := (VRel.tree (ι := fun _ => undef) (st := []) _ _ (hv 1 _ v1 rfl rfl)).strV
  subst e0 e1
  refine (Tryz.strings_Compare (bytesV a) (bytesV b) w).mono fun e w' q => ?_
  obtain ⟨rfl, rfl⟩ := q
  exact ⟨K, _, rfl, .refl h, .int _ _⟩

def orL : List Int → Int
  | [] => 0
  | x :: l => if x = 0 then orL l else x
theorem orL_drop {l : List Int} {i : Nat} (h : i < l.length) : orL (l.drop i) = if l[i] = 0 then orL (l.drop (i + 1)) else l[i] := by
  rw [List.drop_eq_getElem_cons h, orL]
theorem or_plain (l : List Int) (t : Tok) (hl : l.length < 9223372036854775808) : Plain EE 149 [.sl 1 (ints l) t] (.int .i64 (orL l)) := by
  refine plain_of_W ok ok149 (by simp) ?_
  unfold BodyW
  have e0 : code Go.Proofs.Tryz.f149 = code Go.Proofs.Tryz.f149 := rfl
  conv at e0 => rhs; simp only [code, Go.Proofs.Tryz.f149, Option.getD_some]
  rw [e0]
  clear e0
  simp only [W_region, W_seq, W_block, W_ret, OpsW_nil, OpsW_op, upd_some, opF, evalT, evalO, ofConst, argFr, reduceCtorEq, Nat.reduceAdd, Option.getD_some, List.getElem?_cons_zero, true_and, or_true, or_false, if_true, if_false, List.length_cons, List.length_nil, callB, List.zip_cons_cons, List.zip_nil_right, List.map_cons, List.map_nil, List.size_toArray, T37, ints_length]
  refine W_loop (fun n fr st => ∃ (i : Nat), fr 3 = .int .i64 0 ∧ fr 6 = .sl 1 (ints l) t ∧ fr 7 = .int .i64 l.length ∧ fr 8 = .int .i64 i ∧ i ≤ l.length ∧ orL l = orL (l.drop i) ∧ n = l.length - i) ?_ l.length _ _
    ⟨0, by simp [upd], by simp [upd], by simp [upd], by simp [upd], by omega, by simp, by omega⟩
  rintro n fr st ⟨i, f3, f6, f7, f8, hi, hc, rfl⟩
  by_cases ci : (i : Int) < (l.length : Int)
  · have ia : i < l.length := by omega
    have ga := ints_get l i ia
    have hw : IntKind.i64.wrap ((i : Int) + 1) = ((i + 1 : Nat) : Int) := by rw [wrap_small (by omega) (by omega)]; rfl
    rw [orL_drop ia] at hc
    by_cases e : l[i] = 0
    · have e' : (l[i] != 0) = false := by simp [e]
      rw [if_pos e] at hc
      simp only [W_skip, W_region, W_seq, W_cond, W_block, OpsW_nil, OpsW_op, upd_some, Br_W1, Br_W2, opF, evalT, evalO, ofConst, binF, intF, idxN_nat, Nat.reduceEqDiff, Nat.reduceAdd, Option.map_some, List.getElem?_cons_zero, true_and, exists_and_left, if_true, if_false, decide_true, Bool.false_eq_true, List.length_cons, List.length_nil, partF, TI.agg, Nat.reduceLeDiff, List.take_zero, List.drop_zero, List.take_succ_cons, T3, T37, f3, f6, f7, f8, ci, ga, e', hw]
      exact ⟨l.length - (i + 1), by omega, i + 1, rfl, by omega, hc, rfl⟩
    · have e' : (l[i] != 0) = true := by simp [e]
      rw [if_neg e] at hc
      simp only [W_skip, W_region, W_seq, W_cond, W_block, W_ret, OpsW_nil, OpsW_op, upd_some, Br_W1, opF, evalT, evalO, ofConst, binF, intF, idxN_nat, reduceCtorEq, Nat.reduceEqDiff, Nat.reduceAdd, Option.map_some, Option.some.injEq, List.getElem?_cons_zero, true_and, or_true, exists_eq_left', exists_and_left, if_true, if_false, decide_true, Bool.false_eq_true, List.length_cons, List.length_nil, partF, TI.agg, Nat.reduceLeDiff, List.take_zero, List.drop_zero, List.take_succ_cons, T3, T37, f3, f6, f7, f8, ci, ga, e', resF, resAll, resOne]
      exact ⟨1, by rw [pub_int, hc]⟩
  · have hnil : l.drop i = [] := List.drop_eq_nil_of_le (by omega)
    simp only [W_region, W_seq, W_cond, W_block, W_exit, OpsW_nil, OpsW_op, upd_some, Br_W2, opF, evalT, evalO, ofConst, binF, intF, Nat.reduceEqDiff, Option.map_some, Option.some.injEq, exists_eq_left', exists_and_left, if_true, if_false, decide_false, partF, TI.agg, List.drop_zero, T3, T37, f3, f7, f8, ci, resF, resAll, resOne]
    exact ⟨1, by rw [pub_int, hc, hnil]; rfl⟩
/-- Mappings, compared. -/
def mordL (a b : Mp) : Int := orL [order a.from' b.from', Lib.compareBytes a.tag b.tag]
theorem mord_plain (a b : Mp) : Plain EE 127 [.agg a.cells, .agg b.cells] (.int .i64 (mordL a b)) := by
  refine plain_of_W ok ok127 (by simp) ?_
  unfold BodyW
  have e0 : code Go.Proofs.Tryz.f127 = code Go.Proofs.Tryz.f127 := rfl
  conv at e0 => rhs; simp only [code, Go.Proofs.Tryz.f127, Option.getD_some]
  rw [e0]
  clear e0
  simp only [W_region, W_seq, W_ret, OpsW_nil, OpsW_op, upd_some, opF, evalT, evalO, ofConst, argFr, reduceCtorEq, Nat.reduceEqDiff, Nat.reduceAdd, Option.getD_some, Option.getD_none, Option.map_some, List.getElem?_cons_zero, List.getElem?_cons_succ, List.getElem?_nil, Nat.succ_ne_zero, and_self, true_and, or_true, if_true, if_false, Bool.false_eq_true, List.length_cons, List.length_nil, partF, TI.agg, scal, isAgg, cellsOf, Bool.or_true, Nat.reduceLeDiff, List.take_zero, List.drop_zero, List.take_succ_cons, List.nil_append, List.cons_append, W_regionD, xrE, T3, T110, Mp.cells]
  refine OpsW_pl (cmp_plain _ _) rfl rfl (by simp only [upd_some, evalT, evalO, ofConst, argFr, Nat.reduceEqDiff, Option.getD_none, Option.some.injEq, List.getElem?_cons_succ, List.getElem?_nil, if_true, if_false, List.zip_cons_cons, List.zip_nil_right, List.map_cons, List.map_nil, callArgs, strips, strip_int] <;> rfl) ?_
  simp only [OpsW_op, upd_some, opF, evalO, argFr, Nat.reduceEqDiff, Nat.reduceAdd, Option.getD_none, Option.map_some, List.getElem?_cons_zero, List.getElem?_cons_succ, List.getElem?_nil, Nat.succ_ne_zero, if_true, if_false, Bool.false_eq_true, List.length_cons, List.length_nil, partF, TI.agg, Nat.reduceLeDiff, List.take_zero, List.drop_zero, List.drop_succ_cons, List.take_succ_cons, T9, T110]
  refine OpsW_pl (scmp_plain _ _) rfl rfl (by simp only [upd_some, evalT, evalO, ofConst, argFr, Nat.reduceEqDiff, Option.getD_none, Option.some.injEq, List.getElem?_cons_succ, List.getElem?_nil, if_true, if_false, List.zip_cons_cons, List.zip_nil_right, List.map_cons, List.map_nil, callArgs, strips, strip_str] <;> rfl) ?_
  simp only [OpsW_op, upd_some, opF, evalT, evalO, ofConst, argFr, Nat.reduceEqDiff, Nat.reduceAdd, Option.getD_none, List.getElem?_cons_succ, List.getElem?_nil, and_self, if_true, if_false, beq_self_eq_true, List.length_cons, List.length_nil, List.map_cons, List.map_nil, scal, isAgg, cellsOf, tokRo, cellOk, List.all_cons, List.all_nil, Bool.or_false, Bool.and_self, Nat.reduceLeDiff, Nat.lt_add_one, range2, T3, T37]
  refine OpsW_pl (or_plain [order a.from' b.from', Lib.compareBytes a.tag b.tag] .full (by simp)) rfl rfl (by simp only [upd_some, evalT, evalO, ofConst, argFr, Nat.reduceEqDiff, Option.getD_none, List.getElem?_cons_succ, List.getElem?_nil, if_true, if_false, List.zip_cons_cons, List.zip_nil_right, List.map_cons, List.map_nil, callArgs, strips, strip_sl, stripT, ints] <;> rfl) ?_
  simp only [OpsW_nil, OpsW_op, upd_some, opF, evalT, evalO, argFr, Nat.reduceEqDiff, Option.getD_none, Option.map_some, Option.some.injEq, List.getElem?_cons_succ, List.getElem?_nil, exists_eq_left', if_true, if_false, resF, resAll, resOne]
  exact ⟨1, pub_int _ _ _ _⟩

theorem any_id_not {α : Type} (p : α → Bool) : ∀ l : List α, (l.any (id ∘ fun n => !p n)) = !(l.all p)
  | [] => rfl
  | x :: l => by
    rw [List.any_cons, List.all_cons, any_id_not p l, Bool.not_and]; rfl
theorem mc1_spec (n : Int) (st : Store) : Spec EE 161 [.int .i64 n] st (.bool (!validC n)) st := by
  refine spec_of_W ok ok161 (by simp) ?_
  unfold BodyW
  have e0 : code Go.Proofs.Tryz.f161 = code Go.Proofs.Tryz.f161 := rfl
  conv at e0 => rhs; simp only [code, Go.Proofs.Tryz.f161, Option.getD_some]
  rw [e0]
  clear e0
  simp only [W_region, W_seq, W_ret, OpsW_nil, OpsW_op, upd_some, opF, evalT, evalO, ofConst, argFr, reduceCtorEq, Option.getD_some, List.getElem?_cons_zero, true_and, or_true, if_false]
  refine OpsW_pl (valid_plain n) rfl rfl (by simp only [upd_some, evalT, evalO, ofConst, argFr, Nat.reduceEqDiff, Option.getD_none, List.getElem?_cons_succ, List.getElem?_nil, if_true, if_false, List.zip_cons_cons, List.zip_nil_right, List.map_cons, List.map_nil, callArgs, strips, strip_int] <;> rfl) ?_
  simp only [OpsW_nil, OpsW_op, upd_some, opF, evalT, evalO, argFr, unF, Nat.reduceEqDiff, Option.getD_none, Option.map_some, Option.some.injEq, List.getElem?_cons_succ, List.getElem?_nil, and_self, exists_eq_left', if_true, if_false, resF, resAll, resOne]
theorem mc1_ok (l : List Int) (st0 : Store) : PredOk EE 161 [] (l.map fun n => PV.int .i64 n) (l.map fun n => !validC n) st0 := by
  refine ⟨rfl, by simp, fun i v b hv hb st hg => ?_⟩
  rw [List.getElem?_map] at hv hb
  obtain ⟨n, hn, rfl⟩ := Option.map_eq_some_iff.1 hv
  rw [hn] at hb
  simp only [Option.map_some, Option.some.injEq] at hb
  subst hb
  exact ⟨_, _, mc1_spec n st, rfl, .refl _⟩
theorem mcodes_plain (l : List Int) (t : Tok) (hl : l.length < 9223372036854775808) : Plain EE 147 [.sl 1 (ints l) t] (.bool (l.all validC)) := by
  refine plain_of_W ok ok147 (by simp) ?_
  unfold BodyW
  have e0 : code Go.Proofs.Tryz.f147 = code Go.Proofs.Tryz.f147 := rfl
  conv at e0 => rhs; simp only [code, Go.Proofs.Tryz.f147, Option.getD_some]
  rw [e0]
  clear e0
  simp only [W_region, W_seq, W_ret, OpsW_nil, OpsW_op, upd_some, opF, evalT, evalO, ofConst, argFr, reduceCtorEq, Option.getD_some, List.getElem?_cons_zero, true_and, or_true, if_false]
  obtain ⟨r, st1, hs, rfl, y, rfl⟩ := cfI_spec l t 161 [] (l.map fun n => !validC n) [] (mc1_ok _ _) hl
  refine OpsW_sp hs (by simp only [evalO] <;> rfl) rfl rfl (by simp only [upd_some, evalT, evalO, ofConst, argFr, Nat.reduceEqDiff, Option.getD_none, List.getElem?_cons_succ, List.getElem?_nil, if_true, if_false, List.zip_cons_cons, List.zip_nil_right, List.map_cons, List.map_nil, List.nil_append, List.cons_append, callArgs] <;> rfl) ?_
  simp only [OpsW_nil, OpsW_op, upd_some, opF, evalT, evalO, argFr, unF, Nat.reduceEqDiff, Option.getD_none, Option.map_some, Option.some.injEq, List.getElem?_cons_succ, List.getElem?_nil, exists_eq_left', if_true, if_false, resF, resAll, resOne]
  refine ⟨1, ?_⟩
  rw [pub_bool, List.any_map, any_id_not, Bool.not_not]

/-! ### Names -/
/-- Is a character no part of a name? -/
def badR (r : Nat) : Bool := !(decide (65 ≤ r) && decide (r ≤ 90) || decide (97 ≤ r) && decide (r ≤ 122) || decide (48 ≤ r) && decide (r ≤ 57) || r == 95)
set_option maxHeartbeats 2000000 in
theorem nr_calls (x : Nat) (W : World) : Calls Tryz.prog 163 #[.int .i32 x] W fun e w' => e = .returned (.bool (badR x)) ∧ ∃ q, w' = W.drewN q := by
  go_enter Tryz.func163, Tryz.ntmps163
  go_wp2
  all_goals
    go_ret
    refine ⟨congrArg (fun b => Ending.returned (Value.bool b)) (Bool.eq_iff_iff.2 ?_), 0, rfl⟩
    simp [badR]
    try omega
theorem nr_pred (w : World) : PredAt Tryz.prog 163 #[] encR badR w := fun W x _ => nr_calls x W
/-- Is a text a name, as the program asks? -/
def nameM (s : List UInt8) : Bool := !(s == []) && (decide (s.length ≤ 32) && !decide (0 ≤ Lib.idxFunc badR true (bytesV s)))
theorem scf_spec (s : List UInt8) (st : Store) : Spec EE 162 [.str s, .fn 163 []] st (.bool (decide (0 ≤ Lib.idxFunc badR true (bytesV s)))) st := by
  refine ⟨ok162.enters, fun K ι w vs h ha => ?_⟩
  obtain ⟨hs, hv⟩ := ha
  obtain ⟨v0, v1, rfl⟩ := vs2 (vs := vs) (by simpa using hs.symm)
  have e0 := (hv 0 _ v0 rfl rfl).strV
  have e1 : v1 = .func (.func 163) #[] #[] := by
    have := hv 1 _ v1 rfl rfl
    cases this with
    | tree _ _ h => cases h; rfl
    | fn _ _ vs hl _ =>
      have : vs = #[] := by apply Array.ext'; have := hl.symm; simp at this; simp [this]
      rw [this]
  subst e0 e1
  have eg : ∀ args w, (callFunc 163 args).run Tryz.prog w = .ok (.enter 163 args) w := enters_of Tryz.func163 (by kernel_rfl) rfl
  refine (Tryz.strings_ContainsFunc 163 #[] eg badR (bytesV s) w (nr_pred w)).mono fun e w' q => ?_
  obtain ⟨rfl, hb⟩ := q
  exact ⟨K, ι, _, rfl, stp_below h hb, .tree _ _ (.bool _)⟩
theorem isName_plain (s : List UInt8) : Plain EE 148 [.str s] (.bool (nameM s)) := by
  refine plain_of_W ok ok148 (by simp) ?_
  unfold BodyW
  have e0 : code Go.Proofs.Tryz.f148 = code Go.Proofs.Tryz.f148 := rfl
  conv at e0 => rhs; simp only [code, Go.Proofs.Tryz.f148, Option.getD_some]
  rw [e0]
  clear e0
  unfold nameM
  cases hs : (s == []) with
  | true =>
    simp only [W_region, W_seq, W_cond, W_ret, OpsW_nil, OpsW_op, OpsW_guard, upd_some, Br_W1, Br_O2, opF, evalT, evalO, ofConst, argFr, binF, intF, reduceCtorEq, Nat.reduceEqDiff, Option.getD_some, Option.getD_none, Option.map_some, Option.bind_some, Option.some.injEq, List.getElem?_toArray, List.getElem?_cons_zero, List.getElem?_cons_succ, List.getElem?_nil, true_and, or_true, exists_eq_left', if_true, if_false, Bool.true_beq, Bool.not_true, strF, hs, resF, resAll, resOne]
    exact ⟨1, pub_bool _ _ _⟩
  | false =>
    by_cases c : (s.length : Int) > 32
    · have c' : decide (s.length ≤ 32) = false := by simp; omega
      simp only [W_region, W_seq, W_cond, W_ret, OpsW_nil, OpsW_op, OpsW_guard, upd_some, Br_W1, Br_O1, opF, evalT, evalO, ofConst, argFr, binF, intF, reduceCtorEq, Nat.reduceEqDiff, Nat.reduceAdd, Option.getD_some, Option.getD_none, Option.map_some, Option.bind_some, Option.some.injEq, List.getElem?_toArray, List.getElem?_cons_zero, List.getElem?_cons_succ, List.getElem?_nil, true_and, or_true, exists_eq_left', if_true, if_false, decide_true, Bool.false_eq_true, beq_self_eq_true, Bool.not_false, List.length_cons, List.length_nil, callB, List.zip_cons_cons, List.zip_nil_right, List.map_cons, List.map_nil, List.size_toArray, Bool.true_and, T9, strF, hs, c, resF, resAll, resOne]
      exact ⟨1, by rw [pub_bool, c']; rfl⟩
    · have c' : decide (s.length ≤ 32) = true := by simp; omega
      simp only [W_skip, W_region, W_seq, W_cond, W_ret, OpsW_nil, OpsW_op, OpsW_guard, upd_some, Br_W2, Br_O1, opF, evalT, evalO, ofConst, argFr, binF, intF, reduceCtorEq, Nat.reduceEqDiff, Nat.reduceAdd, Option.getD_some, Option.getD_none, Option.map_some, Option.bind_some, List.getElem?_toArray, List.getElem?_cons_zero, List.getElem?_cons_succ, List.getElem?_nil, true_and, or_true, if_true, if_false, decide_false, Bool.false_eq_true, beq_self_eq_true, Bool.not_false, List.length_cons, List.length_nil, callB, List.zip_cons_cons, List.zip_nil_right, List.map_cons, List.map_nil, List.size_toArray, Bool.true_and, T9, strF, hs, c]
      refine OpsW_sp (scf_spec s []) (by simp only [evalO] <;> rfl) rfl rfl (by simp only [upd_some, evalT, evalO, ofConst, argFr, Nat.reduceEqDiff, Option.getD_none, List.getElem?_cons_succ, List.getElem?_nil, if_true, if_false, List.zip_cons_cons, List.zip_nil_right, List.map_cons, List.map_nil, List.nil_append, List.cons_append, callArgs] <;> rfl) ?_
      simp only [OpsW_nil, OpsW_op, upd_some, opF, evalT, evalO, argFr, unF, Nat.reduceEqDiff, Option.getD_none, Option.map_some, Option.some.injEq, List.getElem?_cons_succ, List.getElem?_nil, exists_eq_left', if_true, if_false, resF, resAll, resOne]
      exact ⟨1, by rw [pub_bool, c']; rfl⟩

/-! ### Sorted mappings -/
noncomputable def mSorted (l : List Mp) : Bool := @decide (∀ i, (h : i + 1 < l.length) → ¬ mordL l[i + 1] l[i] < 0) (Classical.propDecidable _)
theorem strip_mp' (m : Mp) : strip1 (.agg [.int .i64 m.from', .sl 1 (ints m.to) (tk m.a), .str m.tag]) = some (.agg [.int .i64 m.from', .sl 1 (ints m.to) (tk m.a), .str m.tag]) := by
  cases ha : m.a <;> simp [strip1, share, tk, tokRo, cellOk]
set_option maxHeartbeats 4000000 in
theorem srt_spec (l : List Mp) (t : Tok) (hl : l.length < 9223372036854775808) (st0 : Store) : SpecQ EE 126 [.sl 3 (mpR l) t, .fn 127 []] st0 fun r st' => r = .bool (mSorted l) ∧ st' = st0 := by
  refine specQ_of_W ok ok126 (by simp) (by kernel_rfl) ?_
  unfold BodyW
  have e0 : code Go.Proofs.Tryz.f126 = code Go.Proofs.Tryz.f126 := rfl
  conv at e0 => rhs; simp only [code, Go.Proofs.Tryz.f126, Option.getD_some]
  rw [e0]
  clear e0
  have hw0 : IntKind.i64.wrap ((l.length : Int) - 1) = (l.length : Int) - 1 := wrap_small (by omega) (by omega)
  simp only [W_region, W_seq, W_block, W_ret, OpsW_nil, OpsW_op, upd_some, opF, evalT, evalO, ofConst, argFr, binF, intF, reduceCtorEq, Nat.reduceEqDiff, Nat.reduceAdd, Option.getD_some, Option.map_some, List.getElem?_cons_zero, true_and, or_true, or_false, if_true, if_false, List.length_cons, List.length_nil, callB, List.zip_cons_cons, List.zip_nil_right, List.map_cons, List.map_nil, List.size_toArray, T31, mpR_length, hw0]
  refine W_loop (fun n fr st => ∃ (i : Int), fr 0 = .sl 3 (mpR l) t ∧ fr 1 = .fn 127 [] ∧ fr 5 = .int .i64 i ∧ st = st0 ∧ -1 ≤ i ∧ i < l.length ∧ (∀ j : Nat, (h : j + 1 < l.length) → i ≤ j → ¬ mordL l[j + 1] l[j] < 0) ∧ n = (i + 1).toNat) ?_ l.length _ _
    ⟨(l.length : Int) - 1, by simp [upd, argFr], by simp [upd, argFr], by simp [upd], rfl, by omega, by omega, fun j h hj => by omega, by omega⟩
  rintro n fr st ⟨i, f0, f1, f5, rfl, hi0, hi, hc, rfl⟩
  by_cases ci : i > 0
  · obtain ⟨k, rfl⟩ : ∃ k : Nat, i = ((k + 1 : Nat) : Int) := ⟨(i - 1).toNat, by omega⟩
    have ia : k + 1 < l.length := by omega
    have ga := mpR_get l (k + 1) ia
    have gb := mpR_get l k (by omega)
    have hw : IntKind.i64.wrap (((k + 1 : Nat) : Int) - 1) = (k : Int) := by rw [wrap_small (by omega) (by omega)]; omega
    have hx : idxN (.int .i64 ((k : Nat) : Int)) = some k := idxN_nat k
    have hy : idxN (.int .i64 ((k + 1 : Nat) : Int)) = some (k + 1) := idxN_nat (k + 1)
    simp only [W_skip, W_region, W_seq, W_cond, W_block, OpsW_nil, OpsW_op, upd_some, Br_W1, opF, evalT, evalO, ofConst, binF, intF, reduceCtorEq, Nat.reduceEqDiff, Nat.reduceAdd, Option.map_some, List.getElem?_cons_zero, exists_and_left, if_true, if_false, decide_true, List.length_cons, List.length_nil, partF, TI.agg, Nat.reduceLeDiff, List.take_zero, List.drop_zero, List.take_succ_cons, W_regionD, xrE, T31, T110, f0, f1, f5, ci, hw, hx, hy, ga, gb]
    refine OpsW_plv (mord_plain l[k + 1] l[k]) (by simp only [upd_some, evalO, Nat.reduceEqDiff, if_true, if_false] <;> rfl) rfl rfl (by simp only [upd_some, evalT, evalO, ofConst, Nat.reduceEqDiff, if_true, if_false, List.zip_cons_cons, List.zip_nil_right, List.map_cons, List.map_nil, callArgs, strips, strip_mp', Mp.cells] <;> rfl) ?_
    by_cases e : mordL l[k + 1] l[k] < 0
    · have hs : mSorted l = false := by
        unfold mSorted
        rw [@decide_eq_false_iff_not _ (Classical.propDecidable _)]
        intro q
        exact q k ia e
      simp only [W_region, W_seq, W_ret, OpsW_nil, OpsW_op, upd_some, Br_W1, opF, evalT, evalO, ofConst, binF, intF, reduceCtorEq, Nat.reduceEqDiff, Option.map_some, Option.some.injEq, true_and, and_true, or_true, exists_eq_left', if_true, if_false, decide_true, e, resF, resAll, resOne]
      rw [hs]
    · simp only [W_skip, OpsW_nil, OpsW_op, upd_some, Br_W2, opF, evalO, ofConst, binF, intF, reduceCtorEq, Nat.reduceEqDiff, Option.map_some, true_and, if_true, if_false, decide_false, f0, f1, f5, e, hw]
      exact ⟨k + 1, by omega, (k : Int), rfl, by omega, by omega, fun j h hj => by
        rcases Nat.lt_or_eq_of_le (show k ≤ j by omega) with q | q
        · exact hc j h (by omega)
        · subst q; exact e, by omega⟩
  · have hs : mSorted l = true := by
      unfold mSorted
      rw [@decide_eq_true_iff _ (Classical.propDecidable _)]
      intro j h
      exact hc j h (by omega)
    simp only [W_region, W_seq, W_cond, W_block, W_exit, OpsW_nil, OpsW_op, upd_some, Br_W2, opF, evalT, evalO, ofConst, binF, intF, reduceCtorEq, Nat.reduceEqDiff, Option.map_some, Option.some.injEq, and_true, exists_eq_left', exists_and_left, if_true, if_false, decide_false, partF, TI.agg, List.drop_zero, W_regionD, xrE, T31, T110, f5, ci, resF, resAll, resOne]
    rw [hs]
end Go.Pv.Ct
end
section
namespace Go.Pv.Ct
open Go.Pv
set_option maxRecDepth 20000

def badCodes (m : Mp) : Bool := !(validC m.from') || !(m.to.all validC)
def badSize (m : Mp) : Bool := decide (m.to.length > 64)
def badName (m : Mp) : Bool := !(m.tag == []) && !(nameM m.tag)
def same2 (a b : Mp) : Bool := a.from' == b.from' && a.tag == b.tag
/-- Does a key occur twice? -/
def dupM (l : List Mp) : Bool := (List.range l.length).any fun i => match l[i]? with | some m => (l.take i).any (same2 m) | none => false
def mapErr (l : List Mp) : Int := if l.any badCodes then 1 else if l.any badSize then 2 else if l.any badName then 6 else if dupM l then 5 else 0
def mkey (m : Mp) : PV := .agg [.int .i64 m.from', .str m.tag]
def mapm (l : List Mp) : List (PV × PV) := l.map fun m => (mkey m, .bool true)
theorem find_mapm (m : Mp) : ∀ (l : List Mp) (k : Nat), (l.any (same2 m) = false → findF (.agg [.int .i64 m.from', .str m.tag]) (mapm l) k = some none) ∧ (l.any (same2 m) = true → ∃ j, findF (.agg [.int .i64 m.from', .str m.tag]) (mapm l) k = some (some (j, .bool true)))
  | [], k => ⟨fun _ => rfl, fun h => by simp at h⟩
  | x :: l, k => by
    have ih := find_mapm m l (k + 1)
    have hk : keyEq (.agg [.int .i64 m.from', .str m.tag]) (mkey x) = some (same2 m x) := by
      simp [keyEq, mkey, cellsEq, cellEq, same2]
    rw [List.any_cons]
    show (_ → findF _ ((mkey x, .bool true) :: mapm l) k = _) ∧ (_ → ∃ j, findF _ ((mkey x, .bool true) :: mapm l) k = _)
    cases hs : same2 m x with
    | true =>
      rw [hs] at hk
      refine ⟨fun h => by simp at h, fun _ => ⟨k, ?_⟩⟩
      rw [findF, hk]
    | false =>
      rw [hs] at hk
      refine ⟨fun h => ?_, fun h => ?_⟩
      · rw [findF, hk]; exact ih.1 (by simpa using h)
      · obtain ⟨j, hj⟩ := ih.2 (by simpa using h)
        exact ⟨j, by rw [findF, hk]; exact hj⟩
theorem eqt172 : EE.eqt 172 = true := by kernel_rfl
theorem keyK172 (a : Int) (s : List UInt8) : keyK EE 172 ⟨.strct [(0, 3), (1, 9)], 2, [.int .i64 0, .str []]⟩ (.agg [.int .i64 a, .str s]) = true := by
  have hr : List.range' 0 2 = [0, 1] := rfl
  simp [keyK, eqt172, flatTys, T172, T3, T9, fitAll, cellFit, hr]
theorem dupM_of {l : List Mp} {i : Nat} (h : i < l.length) (e : (l.take i).any (same2 l[i]) = true) : dupM l = true := by
  unfold dupM
  rw [List.any_eq_true]
  exact ⟨i, List.mem_range.2 h, by rw [List.getElem?_eq_getElem h]; exact e⟩
set_option maxHeartbeats 4000000 in
theorem mck4 (l : List Mp) (t : Tok) (hl : l.length < 9223372036854775808) (h1 : l.any badCodes = false) (h2 : l.any badSize = false) (h3 : l.any badName = false) (fr : Fr) (st : Store) (f0 : fr 0 = .sl 3 (mpR l) t) :
    W EE 76 (part [true, true, true, true] (code Go.Proofs.Tryz.f125)) fr st (EndW EE [.tmp 2] fun p st1 => ∃ n, pub st1 n p = some (.int .i64 (mapErr l))) := by
  have e1 : part [true, true, true, true] (code Go.Proofs.Tryz.f125) = part [true, true, true, true] (code Go.Proofs.Tryz.f125) := rfl
  conv at e1 => rhs; simp only [part, code, Go.Proofs.Tryz.f125, Option.getD_some]
  rw [e1]
  clear e1
  have he : mapErr l = if dupM l then 5 else 0 := by rw [mapErr, h1, h2, h3]; simp
  simp only [W_region, W_seq, W_block, W_ret, OpsW_nil, OpsW_op, upd_some, opF, evalT, evalO, ofConst, reduceCtorEq, Nat.reduceAdd, if_true, if_false, List.length_cons, List.length_nil, callB, List.zip_cons_cons, List.zip_nil_right, List.map_cons, List.map_nil, List.size_toArray, T31, f0, mpR_length]
  refine W_loop (fun n fr s => ∃ (i : Nat), fr 9 = .map st.length ∧ fr 59 = .sl 3 (mpR l) t ∧ fr 60 = .int .i64 l.length ∧ fr 61 = .int .i64 i ∧ s[st.length]? = some (.map (mapm (l.take i))) ∧ i ≤ l.length ∧ (∀ j (hj : j < l.length), j < i → (l.take j).any (same2 l[j]) = false) ∧ n = l.length - i) ?_ l.length _ _
    ⟨0, by simp [upd], by simp [upd], by simp [upd], by simp [upd], by simp [mapm], by omega, by omega, by omega⟩
  rintro n fr s ⟨i, f9, f59, f60, f61, sm, hi, hd, rfl⟩
  have g1 : ∀ x, (s ++ [x])[st.length]? = some (.map (mapm (l.take i))) := fun x => get_app sm
  have g2 : ∀ x y, (s ++ [x] ++ [y])[st.length]? = some (.map (mapm (l.take i))) := fun x y => get_app (g1 x)
  by_cases ci : (i : Int) < (l.length : Int)
  · have ia : i < l.length := by omega
    have ga := mpR_get l i ia
    have hw : IntKind.i64.wrap ((i : Int) + 1) = ((i + 1 : Nat) : Int) := by rw [wrap_small (by omega) (by omega)]; rfl
    obtain ⟨n1, n2⟩ := find_mapm l[i] (l.take i) 0
    cases e : (l.take i).any (same2 l[i]) with
    | true =>
      obtain ⟨j, hj⟩ := n2 e
      simp only [W_skip, W_region, W_seq, W_cond, W_block, W_ret, OpsW_nil, OpsW_op, upd_some, upd_none, Br_W1, opF, evalT, evalO, ofConst, binF, intF, idxN_nat, reduceCtorEq, Nat.reduceEqDiff, Nat.reduceAdd, Option.map_some, Option.bind_some, Option.some.injEq, List.getElem?_cons_zero, List.getElem?_cons_succ, Nat.succ_ne_zero, and_self, true_and, and_true, or_true, or_false, exists_eq_left', exists_and_left, if_true, if_false, decide_true, Bool.false_eq_true, Bool.not_true, List.length_cons, List.length_nil, List.map_cons, List.map_nil, partF, TI.agg, scal, isAgg, cellsOf, List.all_cons, List.all_nil, Bool.or_true, Bool.or_false, Bool.and_self, Nat.reduceLeDiff, Option.isSome_some, splice, fillF, List.take_zero, List.drop_zero, List.drop_succ_cons, List.take_succ_cons, List.nil_append, List.cons_append, List.headD_cons, T3, T4, T9, T31, T110, T170, T172, f9, f59, f60, f61, ci, ga, get_last, set_last, keyK172, mapEs, g2, hj, valOf, resF, resAll, resOne, EndW]
      exact ⟨1, by rw [pub_int, he, dupM_of ia e]; rfl⟩
    | false =>
      have hf := n1 e
      have hap : mapm (l.take i) ++ [(.agg [.int .i64 l[i].from', .str l[i].tag], .bool true)] = mapm (l.take (i + 1)) := by
        unfold mapm
        rw [List.take_succ_eq_append_getElem ia, List.map_append]; rfl
      have hlt : ∀ x y : Ob, st.length < (s ++ [x] ++ [y]).length := fun x y => by have := get_lt sm; simp; omega
      simp only [W_skip, W_region, W_seq, W_cond, W_block, OpsW_nil, OpsW_op, upd_some, upd_none, Br_W1, Br_W2, opF, evalT, evalO, ofConst, binF, intF, idxN_nat, Nat.reduceEqDiff, Nat.reduceAdd, Option.map_some, Option.bind_some, List.getElem?_cons_zero, List.getElem?_cons_succ, Nat.succ_ne_zero, and_self, true_and, and_true, exists_and_left, if_true, if_false, decide_true, Bool.false_eq_true, Bool.not_true, List.length_cons, List.length_nil, List.map_cons, List.map_nil, partF, TI.agg, scal, isAgg, cellsOf, List.all_cons, List.all_nil, Bool.or_true, Bool.or_false, Bool.and_self, Nat.reduceLeDiff, Option.isSome_some, splice, fillF, List.take_zero, List.drop_zero, List.drop_succ_cons, List.take_succ_cons, List.nil_append, List.cons_append, List.headD_cons, T3, T4, T9, T31, T110, T170, T172, f9, f59, f60, f61, ci, ga, get_last, set_last, keyK172, mapEs, g2, hf, valOf, hw, hap]
      refine ⟨l.length - (i + 1), by omega, i + 1, rfl, get_set_eq (hlt _ _) _, by omega, fun j hj hji => ?_, rfl⟩
      rcases Nat.lt_or_eq_of_le (Nat.le_of_lt_succ hji) with q | q
      · exact hd j hj q
      · subst q; exact e
  · have hdm : dupM l = false := by
      unfold dupM
      rw [← Bool.not_eq_true, List.any_eq_true]
      rintro ⟨j, hj, e⟩
      rw [List.mem_range] at hj
      rw [List.getElem?_eq_getElem hj] at e
      have := hd j hj (by omega)
      simp only [this] at e
      cases e
    simp only [W_region, W_seq, W_cond, W_block, W_exit, OpsW_nil, OpsW_op, upd_some, upd_none, Br_W2, opF, evalT, evalO, ofConst, binF, intF, reduceCtorEq, Nat.reduceEqDiff, Nat.reduceAdd, Option.map_some, Option.bind_some, Option.some.injEq, List.getElem?_cons_zero, List.getElem?_cons_succ, Nat.succ_ne_zero, true_and, and_true, or_true, or_false, exists_eq_left', exists_and_left, if_true, if_false, decide_false, Bool.false_eq_true, Bool.not_true, List.length_cons, List.length_nil, List.map_cons, List.map_nil, partF, TI.agg, scal, isAgg, cellsOf, List.all_cons, List.all_nil, Bool.and_self, Nat.reduceLeDiff, Option.isSome_some, splice, fillF, List.take_zero, List.drop_zero, List.nil_append, T3, T4, T9, T31, T110, T170, T172, f60, f61, ci, resF, resAll, resOne, EndW]
    exact ⟨1, by rw [pub_int, he, hdm]; rfl⟩
theorem any_false_take {α : Type} {p : α → Bool} {l : List α} {i : Nat} (hi : l.length ≤ i) (h : (l.take i).any p = false) : l.any p = false := by rwa [List.take_of_length_le hi] at h
theorem any_take_succ {α : Type} {p : α → Bool} {l : List α} {i : Nat} (ia : i < l.length) (h : (l.take i).any p = false) (e : p l[i] = false) : (l.take (i + 1)).any p = false := by
  rw [List.take_succ_eq_append_getElem ia, List.any_append, h]; simp [e]
theorem any_at {α : Type} {p : α → Bool} {l : List α} {i : Nat} (ia : i < l.length) (e : p l[i] = true) : l.any p = true := List.any_eq_true.2 ⟨_, List.getElem_mem ia, e⟩
set_option maxHeartbeats 4000000 in
theorem mck3 (l : List Mp) (t : Tok) (hl : l.length < 9223372036854775808) (h1 : l.any badCodes = false) (h2 : l.any badSize = false) (fr : Fr) (st : Store) (f0 : fr 0 = .sl 3 (mpR l) t) :
    W EE 76 (part [true, true, true] (code Go.Proofs.Tryz.f125)) fr st (EndW EE [.tmp 2] fun p st1 => ∃ n, pub st1 n p = some (.int .i64 (mapErr l))) := by
  have e1 : part [true, true, true] (code Go.Proofs.Tryz.f125) = part [true, true, true] (code Go.Proofs.Tryz.f125) := rfl
  conv at e1 => rhs; simp only [part, code, Go.Proofs.Tryz.f125, Option.getD_some]
  rw [e1]
  clear e1
  have e1 : part [true, true, true, true] (code Go.Proofs.Tryz.f125) = part [true, true, true, true] (code Go.Proofs.Tryz.f125) := rfl
  conv at e1 => rhs; simp only [part, code, Go.Proofs.Tryz.f125, Option.getD_some]
  rw [← e1]
  clear e1
  simp only [W_region, W_seq, W_block, OpsW_nil, OpsW_op, upd_some, opF, evalT, evalO, ofConst, Nat.reduceAdd, if_true, List.length_cons, List.length_nil, callB, List.zip_cons_cons, List.zip_nil_right, List.map_cons, List.map_nil, List.size_toArray, T31, f0, mpR_length]
  refine W_loop (fun n fr s => ∃ (i : Nat), fr 0 = .sl 3 (mpR l) t ∧ fr 42 = .sl 3 (mpR l) t ∧ fr 43 = .int .i64 l.length ∧ fr 44 = .int .i64 i ∧ i ≤ l.length ∧ (l.take i).any badName = false ∧ n = l.length - i) ?_ l.length _ _
    ⟨0, by simp [upd, f0], by simp [upd], by simp [upd], by simp [upd], by omega, by simp, by omega⟩
  clear f0
  rintro n fr s ⟨i, f0, f42, f43, f44, hi, hd, rfl⟩
  by_cases ci : (i : Int) < (l.length : Int)
  · have ia : i < l.length := by omega
    have ga := mpR_get l i ia
    have hw : IntKind.i64.wrap ((i : Int) + 1) = ((i + 1 : Nat) : Int) := by rw [wrap_small (by omega) (by omega)]; rfl
    cases e : (l[i].tag == []) with
    | true =>
      have hb : badName l[i] = false := by simp [badName, e]
      simp only [W_skip, W_region, W_seq, W_cond, W_block, OpsW_nil, OpsW_op, OpsW_guard, upd_some, upd_none, Br_W1, Br_W2, Br_O2, opF, evalT, evalO, ofConst, binF, intF, idxN_nat, reduceCtorEq, Nat.reduceEqDiff, Nat.reduceAdd, Option.map_some, Option.bind_some, List.getElem?_toArray, List.getElem?_cons_zero, List.getElem?_cons_succ, Nat.succ_ne_zero, and_self, true_and, exists_and_left, if_true, if_false, decide_true, Bool.false_eq_true, Bool.false_beq, Bool.not_true, List.length_cons, List.length_nil, partF, TI.agg, scal, isAgg, cellsOf, Bool.or_true, Nat.reduceLeDiff, splice, List.take_zero, List.drop_zero, List.drop_succ_cons, List.take_succ_cons, List.nil_append, List.cons_append, T9, T31, T110, f0, f42, f43, f44, ci, ga, get_last, set_last, strF, e, hw]
      exact ⟨l.length - (i + 1), by omega, i + 1, rfl, by omega, any_take_succ ia hd hb, rfl⟩
    | false =>
      simp only [W_skip, W_region, W_seq, W_cond, W_block, OpsW_nil, OpsW_op, OpsW_guard, upd_some, upd_none, Br_W1, Br_O1, opF, evalT, evalO, ofConst, binF, intF, idxN_nat, reduceCtorEq, Nat.reduceEqDiff, Nat.reduceAdd, Option.map_some, Option.bind_some, List.getElem?_toArray, List.getElem?_cons_zero, List.getElem?_cons_succ, Nat.succ_ne_zero, and_self, true_and, exists_and_left, if_true, if_false, decide_true, Bool.false_eq_true, beq_self_eq_true, Bool.not_false, List.length_cons, List.length_nil, partF, TI.agg, scal, isAgg, cellsOf, Bool.or_true, Nat.reduceLeDiff, splice, List.take_zero, List.drop_zero, List.drop_succ_cons, List.take_succ_cons, List.nil_append, List.cons_append, T9, T31, T110, f42, f43, f44, ci, ga, get_last, set_last, strF, e]
      refine OpsW_pl (isName_plain l[i].tag) rfl rfl (by simp only [upd_some, evalT, evalO, ofConst, Nat.reduceEqDiff, if_true, if_false, List.zip_cons_cons, List.zip_nil_right, List.map_cons, List.map_nil, callArgs, strips, strip_str] <;> rfl) ?_
      cases e2 : nameM l[i].tag with
      | true =>
        have hb : badName l[i] = false := by simp [badName, e2]
        simp only [W_skip, OpsW_nil, OpsW_op, OpsW_guard, upd_some, Br_W2, Br_O1, opF, evalO, ofConst, unF, reduceCtorEq, Nat.reduceEqDiff, Option.map_some, Option.bind_some, List.getElem?_toArray, List.getElem?_cons_zero, List.getElem?_cons_succ, true_and, if_true, if_false, beq_self_eq_true, Bool.not_true, f0, f42, f43, f44, hw]
        exact ⟨l.length - (i + 1), by omega, i + 1, rfl, by omega, any_take_succ ia hd hb, rfl⟩
      | false =>
        have hb : badName l[i] = true := by simp [badName, e2, e]
        simp only [W_region, W_seq, W_ret, OpsW_nil, OpsW_op, OpsW_guard, upd_some, Br_W1, Br_O1, opF, evalT, evalO, ofConst, unF, reduceCtorEq, Nat.reduceEqDiff, Option.map_some, Option.bind_some, Option.some.injEq, List.getElem?_toArray, List.getElem?_cons_zero, List.getElem?_cons_succ, true_and, or_true, or_false, exists_eq_left', if_true, if_false, beq_self_eq_true, Bool.not_false, resF, resAll, resOne, EndW]
        exact ⟨1, by rw [pub_int, mapErr, h1, h2, any_at ia hb]; rfl⟩
  · have h3 := any_false_take (by omega) hd
    simp only [W_region, W_seq, W_cond, W_block, W_exit, OpsW_nil, OpsW_op, OpsW_guard, upd_some, upd_none, Br_W2, opF, evalT, evalO, ofConst, binF, intF, reduceCtorEq, Nat.reduceEqDiff, Nat.reduceAdd, Option.map_some, Option.bind_some, List.getElem?_toArray, List.getElem?_cons_zero, List.getElem?_cons_succ, Nat.succ_ne_zero, true_and, exists_and_left, if_true, if_false, decide_false, Bool.false_eq_true, partF, TI.agg, scal, isAgg, cellsOf, Nat.reduceLeDiff, splice, List.take_zero, List.drop_zero, List.nil_append, T9, T31, T110, f43, f44, ci]
    exact mck4 l t hl h1 h2 h3 _ _ (by simp [upd, f0])
set_option maxHeartbeats 4000000 in
theorem mck2 (l : List Mp) (t : Tok) (hl : l.length < 9223372036854775808) (h1 : l.any badCodes = false) (fr : Fr) (st : Store) (f0 : fr 0 = .sl 3 (mpR l) t) :
    W EE 76 (part [true, true] (code Go.Proofs.Tryz.f125)) fr st (EndW EE [.tmp 2] fun p st1 => ∃ n, pub st1 n p = some (.int .i64 (mapErr l))) := by
  have e1 : part [true, true] (code Go.Proofs.Tryz.f125) = part [true, true] (code Go.Proofs.Tryz.f125) := rfl
  conv at e1 => rhs; simp only [part, code, Go.Proofs.Tryz.f125, Option.getD_some]
  rw [e1]
  clear e1
  have e1 : part [true, true, true] (code Go.Proofs.Tryz.f125) = part [true, true, true] (code Go.Proofs.Tryz.f125) := rfl
  conv at e1 => rhs; simp only [part, code, Go.Proofs.Tryz.f125, Option.getD_some]
  rw [← e1]
  clear e1
  simp only [W_region, W_seq, W_block, OpsW_nil, OpsW_op, upd_some, opF, evalT, evalO, ofConst, Nat.reduceAdd, if_true, List.length_cons, List.length_nil, callB, List.zip_cons_cons, List.zip_nil_right, List.map_cons, List.map_nil, List.size_toArray, T31, f0, mpR_length]
  refine W_loop (fun n fr s => ∃ (i : Nat), fr 0 = .sl 3 (mpR l) t ∧ fr 31 = .sl 3 (mpR l) t ∧ fr 32 = .int .i64 l.length ∧ fr 33 = .int .i64 i ∧ i ≤ l.length ∧ (l.take i).any badSize = false ∧ n = l.length - i) ?_ l.length _ _
    ⟨0, by simp [upd, f0], by simp [upd], by simp [upd], by simp [upd], by omega, by simp, by omega⟩
  clear f0
  rintro n fr s ⟨i, f0, f31, f32, f33, hi, hd, rfl⟩
  by_cases ci : (i : Int) < (l.length : Int)
  · have ia : i < l.length := by omega
    have ga := mpR_get l i ia
    have hw : IntKind.i64.wrap ((i : Int) + 1) = ((i + 1 : Nat) : Int) := by rw [wrap_small (by omega) (by omega)]; rfl
    by_cases c : (l[i].to.length : Int) > 64
    · have hb : badSize l[i] = true := by simp [badSize]; omega
      simp only [W_skip, W_region, W_seq, W_cond, W_block, W_ret, OpsW_nil, OpsW_op, upd_some, upd_none, Br_W1, opF, evalT, evalO, ofConst, binF, intF, idxN_nat, reduceCtorEq, Nat.reduceEqDiff, Nat.reduceAdd, Option.map_some, Option.some.injEq, List.getElem?_cons_zero, List.getElem?_cons_succ, Nat.succ_ne_zero, and_self, true_and, or_true, or_false, exists_eq_left', exists_and_left, if_true, if_false, decide_true, Bool.false_eq_true, List.length_cons, List.length_nil, callB, List.zip_cons_cons, List.zip_nil_right, List.map_cons, List.map_nil, List.size_toArray, partF, TI.agg, scal, isAgg, cellsOf, Bool.or_true, Nat.reduceLeDiff, splice, List.take_zero, List.drop_zero, List.drop_succ_cons, List.take_succ_cons, List.nil_append, List.cons_append, T31, T37, T110, f31, f32, f33, ci, ga, get_last, set_last, ints_length, c, resF, resAll, resOne, EndW]
      exact ⟨1, by rw [pub_int, mapErr, h1, any_at ia hb]; rfl⟩
    · have hb : badSize l[i] = false := by simp [badSize]; omega
      simp only [W_skip, W_region, W_seq, W_cond, W_block, OpsW_nil, OpsW_op, upd_some, upd_none, Br_W1, Br_W2, opF, evalT, evalO, ofConst, binF, intF, idxN_nat, reduceCtorEq, Nat.reduceEqDiff, Nat.reduceAdd, Option.map_some, List.getElem?_cons_zero, List.getElem?_cons_succ, Nat.succ_ne_zero, and_self, true_and, exists_and_left, if_true, if_false, decide_true, decide_false, Bool.false_eq_true, List.length_cons, List.length_nil, callB, List.zip_cons_cons, List.zip_nil_right, List.map_cons, List.map_nil, List.size_toArray, partF, TI.agg, scal, isAgg, cellsOf, Bool.or_true, Nat.reduceLeDiff, splice, List.take_zero, List.drop_zero, List.drop_succ_cons, List.take_succ_cons, List.nil_append, List.cons_append, T31, T37, T110, f0, f31, f32, f33, ci, ga, get_last, set_last, ints_length, c, hw]
      exact ⟨l.length - (i + 1), by omega, i + 1, rfl, by omega, any_take_succ ia hd hb, rfl⟩
  · have h3 := any_false_take (by omega) hd
    simp only [W_region, W_seq, W_cond, W_block, W_exit, OpsW_nil, OpsW_op, upd_some, upd_none, Br_W2, opF, evalT, evalO, ofConst, binF, intF, reduceCtorEq, Nat.reduceEqDiff, Nat.reduceAdd, Option.map_some, List.getElem?_cons_zero, List.getElem?_cons_succ, Nat.succ_ne_zero, true_and, exists_and_left, if_true, if_false, decide_false, Bool.false_eq_true, List.length_cons, List.length_nil, callB, List.zip_cons_cons, List.zip_nil_right, List.map_cons, List.map_nil, List.size_toArray, partF, TI.agg, scal, isAgg, cellsOf, Nat.reduceLeDiff, splice, List.take_zero, List.drop_zero, List.nil_append, T31, T37, T110, f32, f33, ci]
    exact mck3 l t hl h1 h3 _ _ (by simp [upd, f0])
set_option maxHeartbeats 4000000 in
theorem mck_plain (l : List Mp) (t : Tok) (hl : l.length < 9223372036854775808) (ht : ∀ m ∈ l, m.to.length < 9223372036854775808) : Plain EE 125 [.sl 3 (mpR l) t] (.int .i64 (mapErr l)) := by
  refine plain_of_W ok ok125 (by simp) ?_
  unfold BodyW
  have e0 : code Go.Proofs.Tryz.f125 = code Go.Proofs.Tryz.f125 := rfl
  conv at e0 => rhs; simp only [code, Go.Proofs.Tryz.f125, Option.getD_some]
  rw [e0]
  clear e0
  have e1 : part [true, true] (code Go.Proofs.Tryz.f125) = part [true, true] (code Go.Proofs.Tryz.f125) := rfl
  conv at e1 => rhs; simp only [part, code, Go.Proofs.Tryz.f125, Option.getD_some]
  rw [← e1]
  clear e1
  simp only [W_region, W_seq, W_block, OpsW_nil, OpsW_op, upd_some, opF, evalT, evalO, ofConst, argFr, reduceCtorEq, Nat.reduceAdd, Option.getD_some, List.getElem?_cons_zero, or_false, if_true, if_false, List.length_cons, List.length_nil, callB, List.zip_cons_cons, List.zip_nil_right, List.map_cons, List.map_nil, List.size_toArray, T31, mpR_length]
  refine W_loop (fun n fr s => ∃ (i : Nat), fr 0 = .sl 3 (mpR l) t ∧ fr 13 = .sl 3 (mpR l) t ∧ fr 14 = .int .i64 l.length ∧ fr 15 = .int .i64 i ∧ i ≤ l.length ∧ (l.take i).any badCodes = false ∧ n = l.length - i) ?_ l.length _ _
    ⟨0, by simp [upd, argFr], by simp [upd], by simp [upd], by simp [upd], by omega, by simp, by omega⟩
  rintro n fr s ⟨i, f0, f13, f14, f15, hi, hd, rfl⟩
  by_cases ci : (i : Int) < (l.length : Int)
  · have ia : i < l.length := by omega
    have ga := mpR_get l i ia
    have hw : IntKind.i64.wrap ((i : Int) + 1) = ((i + 1 : Nat) : Int) := by rw [wrap_small (by omega) (by omega)]; rfl
    simp only [W_skip, W_region, W_seq, W_cond, W_block, OpsW_nil, OpsW_op, upd_some, upd_none, Br_W1, opF, evalT, evalO, ofConst, binF, intF, idxN_nat, reduceCtorEq, Nat.reduceEqDiff, Nat.reduceAdd, Option.map_some, List.getElem?_cons_zero, Nat.succ_ne_zero, and_self, true_and, exists_and_left, if_true, if_false, decide_true, Bool.false_eq_true, beq_self_eq_true, List.length_cons, List.length_nil, List.map_cons, List.map_nil, partF, TI.agg, scal, isAgg, cellsOf, tokRo, cellOk, List.all_cons, List.all_nil, Bool.and_true, Bool.or_true, Bool.or_false, Bool.and_self, Nat.reduceLeDiff, Nat.lt_add_one, range1, splice, List.take_zero, List.drop_zero, List.drop_succ_cons, List.take_succ_cons, List.nil_append, List.cons_append, T3, T31, T37, T110, f13, f14, f15, ci, ga, get_last, set_last]
    refine OpsW_pl (mcodes_plain [l[i].from'] .full (by simp)) rfl rfl (by simp only [upd_some, evalT, evalO, ofConst, Nat.reduceEqDiff, if_true, if_false, List.zip_cons_cons, List.zip_nil_right, List.map_cons, List.map_nil, callArgs, strips, strip_sl, stripT, ints] <;> rfl) ?_
    cases e : validC l[i].from' with
    | false =>
      have hb : badCodes l[i] = true := by simp [badCodes, e]
      simp only [W_region, W_seq, W_ret, OpsW_nil, OpsW_op, OpsW_guard, upd_some, Br_W1, Br_O2, opF, evalT, evalO, ofConst, unF, reduceCtorEq, Nat.reduceEqDiff, Option.map_some, Option.bind_some, Option.some.injEq, List.getElem?_toArray, List.getElem?_cons_zero, List.getElem?_cons_succ, true_and, or_true, exists_eq_left', if_true, if_false, Bool.true_beq, Bool.not_false, List.all_cons, List.all_nil, Bool.and_true, e, resF, resAll, resOne]
      exact ⟨1, by rw [pub_int, mapErr, any_at ia hb]; rfl⟩
    | true =>
      simp only [OpsW_op, OpsW_guard, upd_some, Br_O1, opF, evalT, evalO, unF, Nat.reduceEqDiff, Nat.reduceAdd, Option.map_some, Option.bind_some, List.getElem?_toArray, List.getElem?_cons_zero, List.getElem?_cons_succ, Nat.succ_ne_zero, if_true, if_false, Bool.false_eq_true, beq_self_eq_true, Bool.not_true, List.length_cons, List.length_nil, partF, TI.agg, List.all_cons, List.all_nil, Bool.and_self, Nat.reduceLeDiff, List.take_zero, List.drop_zero, List.drop_succ_cons, List.take_succ_cons, T37, T110, e, get_last]
      refine OpsW_pl (mcodes_plain l[i].to _ (ht _ (List.getElem_mem ia))) rfl rfl (by simp only [upd_some, evalT, evalO, ofConst, Nat.reduceEqDiff, Option.some.injEq, if_true, if_false, List.zip_cons_cons, List.zip_nil_right, List.map_cons, List.map_nil, callArgs, strips, strip_sl, stripT_tk] <;> rfl) ?_
      cases e2 : l[i].to.all validC with
      | false =>
        have hb : badCodes l[i] = true := by simp [badCodes, e, e2]
        simp only [W_region, W_seq, W_ret, OpsW_nil, OpsW_op, OpsW_guard, upd_some, Br_W1, Br_O1, opF, evalT, evalO, ofConst, unF, reduceCtorEq, Nat.reduceEqDiff, Option.map_some, Option.bind_some, Option.some.injEq, List.getElem?_toArray, List.getElem?_cons_zero, List.getElem?_cons_succ, true_and, or_true, exists_eq_left', if_true, if_false, Bool.false_eq_true, beq_self_eq_true, Bool.not_false, resF, resAll, resOne]
        exact ⟨1, by rw [pub_int, mapErr, any_at ia hb]; rfl⟩
      | true =>
        have hb : badCodes l[i] = false := by simp [badCodes, e, e2]
        simp only [W_skip, OpsW_nil, OpsW_op, OpsW_guard, upd_some, Br_W2, Br_O1, opF, evalO, ofConst, unF, reduceCtorEq, Nat.reduceEqDiff, Option.map_some, Option.bind_some, List.getElem?_toArray, List.getElem?_cons_zero, List.getElem?_cons_succ, true_and, if_true, if_false, Bool.false_eq_true, beq_self_eq_true, Bool.not_true, f0, f13, f14, f15, hw]
        exact ⟨l.length - (i + 1), by omega, i + 1, rfl, by omega, any_take_succ ia hd hb, rfl⟩
  · have h3 := any_false_take (by omega) hd
    simp only [W_region, W_seq, W_cond, W_block, W_exit, OpsW_nil, OpsW_op, upd_some, upd_none, Br_W2, opF, evalT, evalO, ofConst, binF, intF, reduceCtorEq, Nat.reduceEqDiff, Nat.reduceAdd, Option.map_some, List.getElem?_cons_zero, Nat.succ_ne_zero, true_and, exists_and_left, if_true, if_false, decide_false, Bool.false_eq_true, List.map_cons, List.map_nil, partF, TI.agg, scal, isAgg, cellsOf, List.all_cons, List.all_nil, Bool.and_true, Nat.reduceLeDiff, Nat.lt_add_one, range1, splice, List.take_zero, List.drop_zero, List.nil_append, T3, T31, T37, T110, f14, f15, ci]
    exact mck2 l t hl h3 _ _ (by simp [upd, f0])
/-- The error of mappings. -/
noncomputable def MapErr (l : List Mp) : Int := if mapErr l = 0 then (if mSorted l then 0 else 4) else mapErr l
theorem Mck_plain (l : List Mp) (t : Tok) (hs : stripT t = t) (hl : l.length < 9223372036854775808) (ht : ∀ m ∈ l, m.to.length < 9223372036854775808) : Plain EE 94 [.sl 3 (mpR l) t] (.int .i64 (MapErr l)) := by
  refine plain_of_W ok ok94 (by simp) ?_
  unfold BodyW
  have e0 : code Go.Proofs.Tryz.f94 = code Go.Proofs.Tryz.f94 := rfl
  conv at e0 => rhs; simp only [code, Go.Proofs.Tryz.f94, Option.getD_some]
  rw [e0]
  clear e0
  simp only [W_region, W_seq, W_cond, W_ret, OpsW_nil, OpsW_op, upd_some, opF, evalT, evalO, ofConst, argFr, binF, intF, reduceCtorEq, Nat.reduceEqDiff, Option.getD_some, List.getElem?_cons_zero, true_and, or_true, if_true, if_false]
  refine OpsW_pl (mck_plain l t hl ht) rfl rfl (by simp only [upd_some, evalT, evalO, ofConst, argFr, Nat.reduceEqDiff, Option.getD_none, List.getElem?_cons_succ, List.getElem?_nil, if_true, if_false, List.zip_cons_cons, List.zip_nil_right, List.map_cons, List.map_nil, callArgs, strips, strip_sl, hs] <;> rfl) ?_
  unfold MapErr
  by_cases e : mapErr l = 0
  · have e' : (mapErr l != 0) = false := by simp [e]
    simp only [W_skip, OpsW_nil, OpsW_op, upd_some, Br_W2, opF, evalT, evalO, argFr, reduceCtorEq, Nat.reduceEqDiff, Option.getD_some, Option.getD_none, Option.map_some, List.getElem?_cons_zero, List.getElem?_cons_succ, List.getElem?_nil, if_true, if_false, e']
    obtain ⟨r, st1, h1, rfl, rfl⟩ := srt_spec l t hl []
    refine OpsW_sp h1 (by simp only [evalO] <;> rfl) rfl rfl (by simp only [upd_some, evalT, evalO, ofConst, argFr, Nat.reduceEqDiff, Option.getD_none, List.getElem?_cons_succ, List.getElem?_nil, if_true, if_false, List.zip_cons_cons, List.zip_nil_right, List.map_cons, List.map_nil, List.nil_append, List.cons_append, callArgs] <;> rfl) ?_
    rw [if_pos e]
    cases e2 : mSorted l with
    | true =>
      simp only [W_skip, OpsW_nil, OpsW_op, upd_some, Br_W2, opF, evalO, argFr, unF, Nat.reduceEqDiff, Option.getD_none, Option.map_some, Option.some.injEq, List.getElem?_cons_succ, List.getElem?_nil, exists_eq_left', if_true, if_false, Bool.not_true, resF, resAll, resOne]
      exact ⟨1, pub_int _ _ _ _⟩
    | false =>
      simp only [W_region, W_seq, W_ret, OpsW_nil, OpsW_op, upd_some, Br_W1, opF, evalT, evalO, ofConst, argFr, unF, reduceCtorEq, Nat.reduceEqDiff, Option.getD_none, Option.map_some, Option.some.injEq, List.getElem?_cons_succ, List.getElem?_nil, true_and, or_true, exists_eq_left', if_true, if_false, Bool.false_eq_true, Bool.not_false, resF, resAll, resOne]
      exact ⟨1, pub_int _ _ _ _⟩
  · have e' : (mapErr l != 0) = true := by simp [e]
    simp only [W_region, W_seq, W_ret, OpsW_nil, OpsW_op, upd_some, Br_W1, opF, evalT, evalO, argFr, reduceCtorEq, Nat.reduceEqDiff, Option.getD_none, Option.map_some, Option.some.injEq, List.getElem?_cons_succ, List.getElem?_nil, true_and, or_true, exists_eq_left', if_true, if_false, e', resF, resAll, resOne]
    exact ⟨1, by rw [pub_int, if_neg e]⟩
end Go.Pv.Ct
end
section
namespace Go.Pv.Ct
open Go.Pv Go.Proofs
set_option maxRecDepth 20000

def pL (c : Int) : Int := 4352 + ((c - 44032).tdiv 28).tdiv 21
def pV (c : Int) : Int := 4449 + ((c - 44032).tdiv 28).tmod 21
def pT (c : Int) : Int := if (c - 44032).tmod 28 > 0 then 4520 + (c - 44032).tmod 28 - 1 else 0
theorem syl_arith {c : Int} (h : 44032 ≤ c ∧ c < 55204) :
    0 ≤ (c - 44032).tdiv 28 ∧ (c - 44032).tdiv 28 < 399 ∧ 0 ≤ ((c - 44032).tdiv 28).tdiv 21 ∧ ((c - 44032).tdiv 28).tdiv 21 < 19 ∧ 0 ≤ ((c - 44032).tdiv 28).tmod 21 ∧ ((c - 44032).tdiv 28).tmod 21 < 21 ∧ 0 ≤ (c - 44032).tmod 28 ∧ (c - 44032).tmod 28 < 28 := by
  have h0 : 0 ≤ c - 44032 := by omega
  rw [Int.tdiv_eq_ediv_of_nonneg h0, Int.tmod_eq_emod_of_nonneg h0]
  have h1 : 0 ≤ (c - 44032) / 28 := by omega
  rw [Int.tdiv_eq_ediv_of_nonneg h1, Int.tmod_eq_emod_of_nonneg h1]
  omega
set_option maxHeartbeats 4000000 in
theorem parts_plain (c : Int) (h : 44032 ≤ c ∧ c < 55204) : Plain EE 138 [.int .i64 c] (.agg [.int .i64 (pL c), .int .i64 (pV c), .int .i64 (pT c)]) := by
  refine plain_of_W ok ok138 (by simp) ?_
  unfold BodyW
  have e0 : code Go.Proofs.Tryz.f138 = code Go.Proofs.Tryz.f138 := rfl
  conv at e0 => rhs; simp only [code, Go.Proofs.Tryz.f138, Option.getD_some]
  rw [e0]
  clear e0
  obtain ⟨a1, a2, a3, a4, a5, a6, a7, a8⟩ := syl_arith h
  have w1 : IntKind.i64.wrap (c - 44032) = c - 44032 := wrap_small (by omega) (by omega)
  have w2 : IntKind.i64.wrap ((c - 44032).tdiv 28) = (c - 44032).tdiv 28 := wrap_small (by omega) (by omega)
  have w3 : IntKind.i64.wrap (((c - 44032).tdiv 28).tdiv 21) = ((c - 44032).tdiv 28).tdiv 21 := wrap_small (by omega) (by omega)
  have w4 : IntKind.i64.wrap (4352 + ((c - 44032).tdiv 28).tdiv 21) = pL c := wrap_small (by omega) (by omega)
  have w5 : IntKind.i64.wrap (4449 + ((c - 44032).tdiv 28).tmod 21) = pV c := wrap_small (by omega) (by omega)
  have w6 : IntKind.i64.wrap (4520 + (c - 44032).tmod 28) = 4520 + (c - 44032).tmod 28 := wrap_small (by omega) (by omega)
  have w7 : IntKind.i64.wrap (4520 + (c - 44032).tmod 28 - 1) = 4520 + (c - 44032).tmod 28 - 1 := wrap_small (by omega) (by omega)
  have hx2 : idxN (.int .i64 2) = some 2 := rfl
  have n28 : ¬ (28 : Int) = 0 := by decide
  have n21 : ¬ (21 : Int) = 0 := by decide
  by_cases t : (c - 44032).tmod 28 > 0
  · have hp : pT c = 4520 + (c - 44032).tmod 28 - 1 := by rw [pT, if_pos t]
    simp only [W_region, W_seq, W_cond, W_ret, OpsW_nil, OpsW_op, upd_some, upd_none, Br_W1, opF, evalT, evalO, ofConst, argFr, binF, intF, reduceCtorEq, Nat.reduceEqDiff, Nat.reduceAdd, Nat.reduceMul, Option.getD_some, Option.getD_none, Option.map_some, Option.some.injEq, List.getElem?_cons_zero, List.getElem?_cons_succ, List.getElem?_nil, and_self, true_and, and_true, or_true, exists_eq_left', if_true, if_false, decide_true, List.length_cons, List.length_nil, List.map_cons, List.map_nil, partF, TI.agg, scal, isAgg, cellsOf, Bool.or_true, Bool.or_false, Nat.reduceLeDiff, Nat.lt_add_one, splice, fillF, List.take_zero, List.drop_zero, List.drop_succ_cons, List.take_succ_cons, List.nil_append, List.cons_append, List.set_cons_zero, List.set_cons_succ, T3, T159, n28, n21, w1, w2, w3, w4, w5, w6, w7, t, hx2, get_last, set_last, resF, resAll, resOne]
    exact ⟨2, by rw [hp]; rfl⟩
  · have hp : pT c = 0 := by rw [pT, if_neg t]
    simp only [W_skip, W_region, W_seq, W_cond, W_ret, OpsW_nil, OpsW_op, upd_some, upd_none, Br_W2, opF, evalT, evalO, ofConst, argFr, binF, intF, reduceCtorEq, Nat.reduceEqDiff, Nat.reduceAdd, Nat.reduceMul, Option.getD_some, Option.getD_none, Option.map_some, Option.some.injEq, List.getElem?_cons_zero, List.getElem?_cons_succ, List.getElem?_nil, and_self, true_and, and_true, or_true, exists_eq_left', if_true, if_false, decide_false, List.length_cons, List.length_nil, List.map_cons, List.map_nil, partF, TI.agg, scal, isAgg, cellsOf, Bool.or_true, Bool.or_false, Nat.reduceLeDiff, splice, fillF, List.take_zero, List.drop_zero, List.drop_succ_cons, List.take_succ_cons, List.nil_append, List.cons_append, List.set_cons_zero, T3, T159, n28, n21, w1, w2, w3, w4, w5, t, get_last, set_last, resF, resAll, resOne]
    exact ⟨2, by rw [hp]; rfl⟩
/-- The parts of a syllable; of another number, itself. -/
def decH (c : Int) : List Int := if kindL c < 4 then [c] else if pT c = 0 then [pL c, pV c] else [pL c, pV c, pT c]
theorem kind_syl {c : Int} (h : ¬ kindL c < 4) : 44032 ≤ c ∧ c < 55204 := by
  unfold kindL at h
  split at h
  · assumption
  · exfalso
    apply h
    repeat' split
    all_goals omega
theorem arr3_eqF (a b c d e f : Int) : eqF EE 159 (.agg [.int .i64 a, .int .i64 b, .int .i64 c]) (.agg [.int .i64 d, .int .i64 e, .int .i64 f]) = some (a == d && (b == e && c == f)) := by
  have h : EE.eqt 159 = true := by kernel_rfl
  have hr : List.replicate 3 3 = [3, 3, 3] := rfl
  simp [eqF, h, aggEq, flatTys, T159, hr, fitAll, cellFit, T3, cellsEq, cellEq]
set_option maxHeartbeats 4000000 in
theorem hd_plain (c : Int) : Plain EE 107 [.int .i64 c] (.sl 1 (ints (decH c)) (tk (decide (kindL c < 4)))) := by
  refine plain_of_W ok ok107 (by simp) ?_
  unfold BodyW
  have e0 : code Go.Proofs.Tryz.f107 = code Go.Proofs.Tryz.f107 := rfl
  conv at e0 => rhs; simp only [code, Go.Proofs.Tryz.f107, Option.getD_some]
  rw [e0]
  clear e0
  simp only [W_region, W_seq, W_cond, W_ret, OpsW_nil, OpsW_op, upd_some, opF, evalT, evalO, ofConst, argFr, binF, intF, reduceCtorEq, Nat.reduceEqDiff, Nat.reduceAdd, Nat.reduceMul, Option.getD_some, Option.map_none, List.getElem?_cons_zero, true_and, and_true, or_true, if_true, if_false, ne_eq, List.length_cons, List.length_nil, List.map_cons, List.map_nil, partF, TI.agg, scal, isAgg, cellsOf, Nat.reduceLeDiff, splice, fillF, List.take_zero, List.drop_zero, List.nil_append, T3, T37, T159]
  refine OpsW_pl (kind_plain c) rfl rfl (by simp only [upd_some, evalT, evalO, ofConst, argFr, Nat.reduceEqDiff, Option.getD_none, List.getElem?_cons_succ, List.getElem?_nil, if_true, if_false, List.zip_cons_cons, List.zip_nil_right, List.map_cons, List.map_nil, callArgs, strips, strip_int] <;> rfl) ?_
  by_cases k : kindL c < 4
  · simp only [W_region, W_seq, W_ret, OpsW_nil, OpsW_op, upd_some, Br_W1, opF, evalT, evalO, ofConst, argFr, binF, intF, reduceCtorEq, Nat.reduceEqDiff, Nat.reduceAdd, Option.getD_some, Option.getD_none, Option.map_some, Option.some.injEq, List.getElem?_cons_zero, List.getElem?_cons_succ, List.getElem?_nil, and_self, true_and, or_true, exists_eq_left', if_true, if_false, decide_true, beq_self_eq_true, List.length_cons, List.length_nil, List.map_cons, List.map_nil, scal, isAgg, cellsOf, tokRo, cellOk, List.all_cons, List.all_nil, Bool.or_false, Bool.and_self, Nat.reduceLeDiff, Nat.lt_add_one, range1, T3, T37, k, resF, resAll, resOne]
    exact ⟨1, by rw [pub_sl, decH, if_pos k]; rfl⟩
  · have kd : decide (kindL c < 4) = false := by simp [k]
    simp only [W_skip, OpsW_nil, OpsW_op, upd_some, Br_W2, opF, evalO, ofConst, argFr, binF, intF, reduceCtorEq, Nat.reduceEqDiff, Option.getD_some, Option.getD_none, Option.map_some, List.getElem?_cons_zero, List.getElem?_cons_succ, List.getElem?_nil, if_true, if_false, decide_false, k]
    refine OpsW_pl (parts_plain c (kind_syl k)) rfl rfl (by simp only [upd_some, evalT, evalO, ofConst, argFr, Nat.reduceEqDiff, Option.getD_none, List.getElem?_cons_succ, List.getElem?_nil, if_true, if_false, List.zip_cons_cons, List.zip_nil_right, List.map_cons, List.map_nil, callArgs, strips, strip_int] <;> rfl) ?_
    have hx0 : idxN (.int .i64 0) = some 0 := rfl
    have hx1 : idxN (.int .i64 1) = some 1 := rfl
    have hx2 : idxN (.int .i64 2) = some 2 := rfl
    by_cases t : pT c = 0
    · have hq := arr3_eqF (pL c) (pV c) (pT c) (pL c) (pV c) 0
      have hq2 : (pL c == pL c && (pV c == pV c && pT c == 0)) = true := by simp [t]
      rw [hq2] at hq
      simp only [W_region, W_seq, W_ret, OpsW_nil, OpsW_op, upd_some, upd_none, Br_W1, opF, evalT, evalO, ofConst, argFr, reduceCtorEq, Nat.reduceEqDiff, Nat.reduceAdd, Nat.reduceMul, Option.getD_none, Option.map_some, Option.map_none, Option.some.injEq, List.getElem?_cons_zero, List.getElem?_cons_succ, List.getElem?_nil, and_self, true_and, or_true, exists_eq_left', if_true, if_false, Bool.false_eq_true, List.length_cons, List.length_nil, scal, isAgg, cellsOf, Bool.or_true, Bool.or_false, Nat.reduceLeDiff, Nat.reduceLT, Nat.zero_lt_succ, splice, List.take_zero, List.drop_zero, List.drop_succ_cons, List.take_succ_cons, List.nil_append, List.cons_append, List.set_cons_zero, T3, T159, hx0, hx1, hx2, hq, sliceF, resF, resAll, resOne]
      exact ⟨2, by rw [decH, if_neg k, if_pos t]; rfl⟩
    · have hq := arr3_eqF (pL c) (pV c) (pT c) (pL c) (pV c) 0
      have hq2 : (pL c == pL c && (pV c == pV c && pT c == 0)) = false := by simp [t]
      rw [hq2] at hq
      simp only [W_skip, OpsW_nil, OpsW_op, upd_some, upd_none, Br_W2, opF, evalT, evalO, argFr, Nat.reduceEqDiff, Nat.reduceAdd, Nat.reduceMul, Option.getD_none, Option.map_some, Option.some.injEq, List.getElem?_cons_zero, List.getElem?_cons_succ, List.getElem?_nil, and_self, exists_eq_left', if_true, if_false, Bool.false_eq_true, List.length_cons, List.length_nil, scal, isAgg, cellsOf, Bool.or_true, Bool.or_false, Nat.reduceLeDiff, Nat.reduceLT, Nat.zero_lt_succ, splice, List.take_zero, List.drop_zero, List.drop_succ_cons, List.take_succ_cons, List.nil_append, List.cons_append, List.set_cons_zero, T3, T159, hx0, hx1, hq, sliceF, resF, resAll, resOne]
      exact ⟨2, by rw [decH, if_neg k, if_neg t]; rfl⟩

/-! ### Maps by numbers -/
def imap {α : Type} (f : α → Int) (g : α → PV) (l : List α) : List (PV × PV) := l.map fun x => (.int .i64 (f x), g x)
theorem find_imap {α : Type} {f : α → Int} {g : α → PV} {s : Int} : ∀ (l : List α) (k : Nat), findF (.int .i64 s) (imap f g l) k = some ((l.findIdx? (fun x => f x == s)).map fun j => (k + j, ((l[j]?).map g).getD .bad))
  | [], k => rfl
  | x :: l, k => by
    show findF (.int .i64 s) ((.int .i64 (f x), g x) :: imap f g l) k = _
    rw [List.findIdx?_cons]
    by_cases h : s = f x
    · subst h
      simp [findF, keyEq]
    · have hb : (s == f x) = false := by simp [h]
      have hb2 : (f x == s) = false := by simp [Ne.symm h]
      rw [findF]
      simp only [keyEq, if_true, hb, hb2]
      rw [find_imap l (k + 1)]
      cases l.findIdx? (fun x => f x == s) with
      | none => simp
      | some j => simp; omega
theorem find_im {α : Type} (f : α → Int) (g : α → PV) (s : Int) (l : List α) : match l.find? (fun x => f x == s) with
    | none => findF (.int .i64 s) (imap f g l) 0 = some none
    | some x => ∃ j, findF (.int .i64 s) (imap f g l) 0 = some (some (j, g x)) := by
  rw [find_imap]
  cases hx : l.findIdx? (fun x => f x == s) with
  | none =>
    have : l.find? (fun x => f x == s) = none := by
      rw [List.find?_eq_none]
      intro x hx'
      have := List.findIdx?_eq_none_iff.1 hx x hx'
      simpa using this
    rw [this]; rfl
  | some j =>
    obtain ⟨hj, h1, h2⟩ := List.findIdx?_eq_some_iff_getElem.1 hx
    have : l.find? (fun x => f x == s) = some l[j] := by
      rw [List.find?_eq_some_iff_getElem]
      exact ⟨h1, j, hj, rfl, fun i hi => by simpa using h2 i hi⟩
    rw [this]
    exact ⟨0 + j, by rw [Option.map_some, List.getElem?_eq_getElem hj]; rfl⟩

/-! ### The data -/
def mpV (m : Mp) : PV := .agg m.cells
/-- The data of decompositions in the store. -/
structure DataAt (st : Store) (id m f : Nat) (l : List Mp) (compat : Bool) : Prop where
  data : st[id]? = some (.cells [.map m, .bool compat, .map f])
  maps : st[m]? = some (.map (imap Mp.from' mpV l))
def FromsNe (l : List Mp) : Prop := l.Pairwise fun a b => a.from' ≠ b.from'
def LoadD (st0 : Store) (l : List Mp) (compat : Bool) (r : PV) (st' : Store) : Prop :=
  ∃ id m f, r = .optr id 3 0 ∧ DataAt st' id m f l compat ∧ st'[f]? = some (.map []) ∧ st0.length ≤ f ∧ f ≠ m ∧ f ≠ id ∧ Grows st0 st'
theorem imap_take {l : List Mp} {i : Nat} (h : i < l.length) : imap Mp.from' mpV (l.take (i + 1)) = imap Mp.from' mpV (l.take i) ++ [(.int .i64 l[i].from', .agg [.int .i64 l[i].from', .sl 1 (ints l[i].to) (tk l[i].a), .str l[i].tag])] := by
  unfold imap
  rw [List.take_succ_eq_append_getElem h, List.map_append]
  rfl
set_option maxHeartbeats 4000000 in
theorem loadD_spec (l : List Mp) (t : Tok) (compat : Bool) (hl : l.length < 9223372036854775808) (hn : FromsNe l) (st0 : Store) : SpecQ EE 52 [.sl 3 (mpR l) t, .bool compat] st0 (LoadD st0 l compat) := by
  refine specQ_of_W ok ok52 (by simp) (by kernel_rfl) ?_
  unfold BodyW
  have e0 : code Go.Proofs.Tryz.f52 = code Go.Proofs.Tryz.f52 := rfl
  conv at e0 => rhs; simp only [code, Go.Proofs.Tryz.f52, Option.getD_some]
  rw [e0]
  clear e0
  simp only [W_region, W_seq, W_block, W_ret, OpsW_nil, OpsW_op, upd_some, opF, evalT, evalO, ofConst, argFr, reduceCtorEq, Nat.reduceEqDiff, Nat.reduceAdd, Option.getD_some, Option.map_some, Option.bind_some, List.getElem?_cons_zero, List.getElem?_cons_succ, and_self, true_and, and_true, or_true, or_false, if_true, if_false, Bool.false_eq_true, Bool.not_true, List.length_cons, List.length_nil, callB, List.zip_cons_cons, List.zip_nil_right, List.map_cons, List.map_nil, List.size_toArray, scal, isAgg, cellsOf, List.all_cons, List.all_nil, Bool.or_true, Bool.or_false, Bool.and_self, Nat.reduceLeDiff, Option.isSome_some, splice, fillF, List.take_zero, List.drop_zero, List.drop_succ_cons, List.take_succ_cons, List.nil_append, List.cons_append, T4, T31, T105, T106, T108, mpR_length, List.append_assoc, List.length_append]
  refine W_loop (fun n fr st => ∃ (i : Nat), fr 5 = .optr (st0.length + 2) 3 0 ∧ fr 13 = .sl 3 (mpR l) t ∧ fr 14 = .int .i64 l.length ∧ fr 15 = .int .i64 i ∧ i ≤ l.length ∧ Grows st0 st ∧ st[st0.length + 2]? = some (.cells [.map st0.length, .bool compat, .map (st0.length + 1)]) ∧ st[st0.length]? = some (.map (imap Mp.from' mpV (l.take i))) ∧ st[st0.length + 1]? = some (.map []) ∧ n = l.length - i) ?_ l.length _ _
    ⟨0, by simp [upd], by simp [upd], by simp [upd], by simp [upd], by omega, ⟨_, rfl⟩, by rw [get_at]; rfl, by rw [get_at0]; rfl, by rw [get_at]; rfl, by omega⟩
  rintro n fr st ⟨i, f5, f13, f14, f15, hi, hg, sd, sm, sf, rfl⟩
  have g1 : ∀ x, (st ++ [x])[st0.length + 2]? = some (.cells [.map st0.length, .bool compat, .map (st0.length + 1)]) := fun x => get_app sd
  have g2 : ∀ x, (st ++ [x])[st0.length]? = some (.map (imap Mp.from' mpV (l.take i))) := fun x => get_app sm
  have g3 : ∀ x, (st ++ [x])[st0.length + 1]? = some (.map []) := fun x => get_app sf
  by_cases ci : (i : Int) < (l.length : Int)
  · have ia : i < l.length := by omega
    have ga := mpR_get l i ia
    have hw : IntKind.i64.wrap ((i : Int) + 1) = ((i + 1 : Nat) : Int) := by rw [wrap_small (by omega) (by omega)]; rfl
    have hf := find_im Mp.from' mpV l[i].from' (l.take i)
    have hnone : (l.take i).find? (fun x => x.from' == l[i].from') = none := by
      rw [List.find?_eq_none]
      intro x hx
      obtain ⟨j, hj, rfl⟩ := List.getElem_of_mem hx
      rw [List.getElem_take]
      have hj' : j < i := by simp at hj; omega
      have := List.pairwise_iff_getElem.1 hn j i (by omega) ia hj'
      simpa using this
    rw [hnone] at hf
    simp only at hf
    have hit := imap_take ia
    have hlt : ∀ x : Ob, st0.length < (st ++ [x]).length := fun x => by have := get_lt sm; simp; omega
    simp only [W_skip, W_region, W_seq, W_cond, W_block, OpsW_nil, OpsW_op, upd_some, upd_none, Br_W1, opF, evalT, evalO, ofConst, binF, intF, idxN_nat, Nat.reduceEqDiff, Nat.reduceAdd, Option.map_some, List.getElem?_cons_zero, Nat.succ_ne_zero, and_self, true_and, exists_and_left, if_true, if_false, decide_true, Bool.false_eq_true, List.length_cons, List.length_nil, partF, TI.agg, scal, isAgg, cellsOf, Bool.or_true, Nat.reduceLeDiff, splice, List.take_zero, List.drop_zero, List.drop_succ_cons, List.take_succ_cons, List.nil_append, List.cons_append, W_regionD, xrE, T3, T31, T105, T108, T110, f5, f13, f14, f15, ci, ga, get_last, set_last, g1, g2, keyK, hf, hw]
    rw [← hit]
    exact ⟨l.length - (i + 1), by omega, i + 1, rfl, by omega, (hg.more _).setAt (Nat.le_refl _) _, by rw [get_set_ne _ (by omega)]; exact g1 _, get_set_eq (hlt _) _, by rw [get_set_ne _ (by omega)]; exact g3 _, rfl⟩
  · have hil : l.take i = l := List.take_of_length_le (by omega)
    rw [hil] at sm
    simp only [W_region, W_seq, W_cond, W_block, W_exit, OpsW_nil, OpsW_op, upd_some, upd_none, Br_W2, opF, evalT, evalO, ofConst, binF, intF, Nat.reduceEqDiff, Nat.reduceAdd, Option.map_some, Option.some.injEq, List.getElem?_cons_zero, Nat.succ_ne_zero, true_and, exists_eq_left', exists_and_left, if_true, if_false, decide_false, Bool.false_eq_true, partF, TI.agg, scal, isAgg, cellsOf, Nat.reduceLeDiff, splice, List.take_zero, List.drop_zero, List.nil_append, W_regionD, xrE, T3, T31, T105, T108, T110, f5, f14, f15, ci, resF, resAll, resOne]
    exact ⟨_, _, _, rfl, ⟨sd, sm⟩, sf, by omega, by omega, by omega, hg⟩
/-- What once answers. -/
def onceF (l : List Mp) (compat : Bool) (c : Int) : Option (List Int) :=
  if (decH c).length > 1 then some (decH c) else match l.find? (fun m => m.from' == c) with
    | none => none
    | some m => if m.tag == [] || compat then some m.to else none
def onceR (l : List Mp) (compat : Bool) (c : Int) (r : PV) : Prop := ∃ t, r = .tup [.sl 1 (ints ((onceF l compat c).getD [])) (tk t), .bool (onceF l compat c).isSome]
set_option maxHeartbeats 4000000 in
theorem once_spec {st : Store} {id m f : Nat} {l : List Mp} {compat : Bool} (h : DataAt st id m f l compat) (c : Int) :
    SpecQ EE 76 [.optr id 3 0, .int .i64 c] st fun r st' => onceR l compat c r ∧ Grows st st' := by
  refine specQ_of_W ok ok76 (by simp) (by kernel_rfl) ?_
  unfold BodyW
  have e0 : code Go.Proofs.Tryz.f76 = code Go.Proofs.Tryz.f76 := rfl
  conv at e0 => rhs; simp only [code, Go.Proofs.Tryz.f76, Option.getD_some]
  rw [e0]
  clear e0
  obtain ⟨h1, h2⟩ := h
  have hf := find_im Mp.from' mpV c l
  simp only [W_region, W_seq, W_cond, W_ret, OpsW_nil, OpsW_op, OpsW_guard, upd_some, upd_none, opF, evalT, evalO, ofConst, argFr, binF, intF, unF, reduceCtorEq, Nat.reduceEqDiff, Nat.reduceAdd, Option.getD_some, Option.bind_some, List.getElem?_toArray, List.getElem?_cons_zero, List.getElem?_cons_succ, Nat.succ_ne_zero, true_and, or_true, if_true, if_false, List.length_cons, List.length_nil, callB, List.zip_cons_cons, List.zip_nil_right, List.map_cons, List.map_nil, List.size_toArray, partF, TI.agg, scal, isAgg, cellsOf, Nat.reduceLeDiff, splice, List.take_zero, List.drop_zero, List.nil_append, T3, T37, T105, T108, T110]
  refine OpsW_pl (hd_plain c) rfl rfl (by simp only [upd_some, evalT, evalO, ofConst, argFr, Nat.reduceEqDiff, Option.getD_none, List.getElem?_cons_succ, List.getElem?_nil, if_true, if_false, List.zip_cons_cons, List.zip_nil_right, List.map_cons, List.map_nil, callArgs, strips, strip_int] <;> rfl) ?_
  by_cases k : (decH c).length > 1
  · have k' : ((decH c).length : Int) > 1 := by omega
    have ho : onceF l compat c = some (decH c) := by rw [onceF, if_pos k]
    simp only [W_region, W_seq, W_ret, OpsW_nil, OpsW_op, upd_some, Br_W1, opF, evalT, evalO, ofConst, argFr, reduceCtorEq, Nat.reduceEqDiff, Option.getD_none, Option.map_some, Option.some.injEq, List.getElem?_cons_succ, List.getElem?_nil, true_and, or_true, exists_eq_left', if_true, if_false, decide_true, ints_length, k', resF, resAll, resOne]
    exact ⟨⟨_, by rw [ho]; rfl⟩, .refl _⟩
  · have k' : ¬ ((decH c).length : Int) > 1 := by omega
    have ho : onceF l compat c = match l.find? (fun m => m.from' == c) with
      | none => none
      | some m => if m.tag == [] || compat then some m.to else none := by rw [onceF, if_neg k]
    cases hx : l.find? (fun m => m.from' == c) with
    | none =>
      rw [hx] at hf ho
      simp only at hf ho
      simp only [W_skip, W_region, W_seq, W_ret, OpsW_nil, OpsW_op, OpsW_guard, upd_some, Br_W1, Br_W2, Br_O2, opF, evalT, evalO, ofConst, argFr, reduceCtorEq, Nat.reduceEqDiff, Nat.reduceAdd, Option.getD_some, Option.getD_none, Option.map_some, Option.bind_some, Option.some.injEq, List.getElem?_toArray, List.getElem?_cons_zero, List.getElem?_cons_succ, List.getElem?_nil, and_self, true_and, or_true, exists_eq_left', if_true, if_false, decide_false, Bool.false_eq_true, Bool.true_beq, Bool.not_false, List.length_cons, List.length_nil, TI.agg, Bool.or_true, Nat.reduceLeDiff, List.take_zero, List.drop_zero, List.drop_succ_cons, List.take_succ_cons, List.nil_append, List.cons_append, List.headD_cons, T3, T37, ints_length, k', h1, h2, keyK, mapEs, hf, valOf, get_last, set_last, resF, resAll, resOne]
      exact ⟨⟨true, by rw [ho]; rfl⟩, ⟨_, rfl⟩⟩
    | some mm =>
      rw [hx] at hf ho
      obtain ⟨j, hf⟩ := hf
      simp only [mpV, Mp.cells] at hf
      simp only at ho
      have g1 : ∀ x, (st ++ [x])[id]? = some (.cells [.map m, .bool compat, .map f]) := fun x => get_app h1
      cases e : (mm.tag == []) with
      | true =>
        rw [e] at ho
        simp only [W_skip, OpsW_nil, OpsW_op, OpsW_guard, upd_some, Br_W2, Br_O1, Br_O2, opF, evalT, evalO, ofConst, argFr, binF, reduceCtorEq, Nat.reduceEqDiff, Nat.reduceAdd, Option.getD_some, Option.getD_none, Option.map_some, Option.bind_some, Option.some.injEq, List.getElem?_toArray, List.getElem?_cons_zero, List.getElem?_cons_succ, List.getElem?_nil, Nat.succ_ne_zero, and_self, true_and, exists_eq_left', if_true, if_false, decide_false, Bool.false_eq_true, beq_self_eq_true, Bool.false_beq, Bool.not_true, List.length_cons, List.length_nil, partF, TI.agg, Bool.or_true, Nat.reduceLeDiff, List.take_zero, List.drop_zero, List.drop_succ_cons, List.take_succ_cons, List.nil_append, List.cons_append, List.headD_cons, T9, T110, ints_length, k', h1, h2, keyK, mapEs, hf, valOf, get_last, set_last, strF, e, resF, resAll, resOne]
        exact ⟨⟨mm.a, by rw [ho]; rfl⟩, ⟨_, rfl⟩⟩
      | false =>
        rw [e] at ho
        cases compat with
        | true =>
          simp only [W_skip, OpsW_nil, OpsW_op, OpsW_guard, upd_some, Br_W2, Br_O1, opF, evalT, evalO, ofConst, argFr, binF, unF, reduceCtorEq, Nat.reduceEqDiff, Nat.reduceAdd, Option.getD_some, Option.getD_none, Option.map_some, Option.bind_some, Option.some.injEq, List.getElem?_toArray, List.getElem?_cons_zero, List.getElem?_cons_succ, List.getElem?_nil, Nat.succ_ne_zero, and_self, true_and, exists_eq_left', if_true, if_false, decide_false, Bool.false_eq_true, beq_self_eq_true, Bool.not_true, Bool.not_false, List.length_cons, List.length_nil, partF, TI.agg, Bool.or_true, Nat.reduceLeDiff, List.take_zero, List.drop_zero, List.drop_succ_cons, List.take_succ_cons, List.nil_append, List.cons_append, List.headD_cons, T4, T9, T108, T110, ints_length, k', h1, g1, h2, keyK, mapEs, hf, valOf, get_last, set_last, strF, e, resF, resAll, resOne]
          exact ⟨⟨mm.a, by rw [ho]; rfl⟩, ⟨_, rfl⟩⟩
        | false =>
          simp only [W_skip, W_region, W_seq, W_ret, OpsW_nil, OpsW_op, OpsW_guard, upd_some, Br_W1, Br_W2, Br_O1, opF, evalT, evalO, ofConst, argFr, binF, unF, reduceCtorEq, Nat.reduceEqDiff, Nat.reduceAdd, Option.getD_some, Option.getD_none, Option.map_some, Option.bind_some, Option.some.injEq, List.getElem?_toArray, List.getElem?_cons_zero, List.getElem?_cons_succ, List.getElem?_nil, Nat.succ_ne_zero, and_self, true_and, or_true, exists_eq_left', if_true, if_false, decide_false, Bool.false_eq_true, beq_self_eq_true, Bool.not_true, Bool.not_false, List.length_cons, List.length_nil, partF, TI.agg, Bool.or_true, Nat.reduceLeDiff, List.take_zero, List.drop_zero, List.drop_succ_cons, List.take_succ_cons, List.nil_append, List.cons_append, List.headD_cons, T3, T4, T9, T37, T108, T110, ints_length, k', h1, g1, h2, keyK, mapEs, hf, valOf, get_last, set_last, strF, e, resF, resAll, resOne]
          exact ⟨⟨true, by rw [ho]; rfl⟩, ⟨_, rfl⟩⟩
end Go.Pv.Ct
end
section
namespace Go.Pv.Ct
open Go.Pv Go.Proofs
set_option maxRecDepth 20000

/-! ### A search with a predicate that keeps a state -/
/-- One after the other, until one answers. -/
def anyS {σ : Type} (v : σ → Int → Option (Bool × σ)) : σ → List Int → Option (Bool × σ)
  | G, [] => some (false, G)
  | G, x :: xs => match v G x with
    | none => none
    | some (true, G') => some (true, G')
    | some (false, G') => anyS v G' xs
/-- A function value that answers as 'v' does, and turns the state. -/
def StOk {σ : Type} (E : Env) (f : FuncId) (caps : List PV) (v : σ → Int → Option (Bool × σ)) (Inv : Store → σ → Prop) : Prop :=
  E.pl f = false ∧ ∀ (G : σ) (x : Int) (b : Bool) (G' : σ), v G x = some (b, G') → ∀ st, Inv st G → SpecQ E f ([.int .i64 x] ++ caps) st fun r st' => r = .bool b ∧ Inv st' G'
set_option maxHeartbeats 4000000 in
theorem ixS_st {σ : Type} (l : List Int) (t : Tok) (f : FuncId) (caps : List PV) (v : σ → Int → Option (Bool × σ)) (Inv : Store → σ → Prop) (hp : StOk EE f caps v Inv) (hl : l.length < 9223372036854775808)
    (G : σ) (b : Bool) (G' : σ) (hv : anyS v G l = some (b, G')) (st0 : Store) (h0 : Inv st0 G) :
    SpecQ EE 90 [.sl 1 (ints l) t, .fn f caps] st0 fun r st' => (∃ k : Int, r = .int .i64 k ∧ decide (k ≥ 0) = b) ∧ Inv st' G' := by
  obtain ⟨hpl, hpr⟩ := hp
  refine specQ_of_W ok ok90 (by simp) (by kernel_rfl) ?_
  unfold BodyW
  have e0 : code Go.Proofs.Tryz.f90 = code Go.Proofs.Tryz.f90 := rfl
  conv at e0 => rhs; simp only [code, Go.Proofs.Tryz.f90, Option.getD_some]
  rw [e0]
  clear e0
  simp only [W_region, W_seq, W_block, W_ret, OpsW_nil, OpsW_op, upd_some, opF, evalT, evalO, ofConst, argFr, reduceCtorEq, Nat.reduceAdd, Option.getD_some, List.getElem?_cons_zero, true_and, or_true, or_false, if_true, if_false, List.length_cons, List.length_nil, callB, List.zip_cons_cons, List.zip_nil_right, List.map_cons, List.map_nil, List.size_toArray, T37, ints_length]
  refine W_loop (fun n fr st => ∃ (i : Nat) (H : σ), fr 0 = .sl 1 (ints l) t ∧ fr 1 = .fn f caps ∧ fr 7 = .int .i64 l.length ∧ fr 8 = .int .i64 i ∧ Inv st H ∧ i ≤ l.length ∧ anyS v H (l.drop i) = some (b, G') ∧ n = l.length - i) ?_ l.length _ _
    ⟨0, G, by simp [upd, argFr], by simp [upd, argFr], by simp [upd], by simp [upd], h0, by omega, by simpa using hv, by omega⟩
  rintro n fr st ⟨i, H, f0, f1, f7, f8, hI, hi, hc, rfl⟩
  by_cases ci : (i : Int) < (l.length : Int)
  · have ia : i < l.length := by omega
    have ga := ints_get l i ia
    have hw : IntKind.i64.wrap ((i : Int) + 1) = ((i + 1 : Nat) : Int) := by rw [wrap_small (by omega) (by omega)]; rfl
    rw [List.drop_eq_getElem_cons ia, anyS] at hc
    cases hvi : v H l[i] with
    | none => rw [hvi] at hc; cases hc
    | some q =>
      obtain ⟨b1, H1⟩ := q
      rw [hvi] at hc
      obtain ⟨r, st1, hs, rfl, hI1⟩ := hpr H l[i] b1 H1 hvi st hI
      simp only [W_skip, W_region, W_seq, W_cond, W_block, OpsW_nil, OpsW_op, upd_some, Br_W1, opF, evalT, evalO, ofConst, binF, intF, idxN_nat, reduceCtorEq, Nat.reduceEqDiff, Nat.reduceAdd, Option.map_some, List.getElem?_cons_zero, exists_and_left, if_true, if_false, decide_true, Bool.false_eq_true, List.length_cons, List.length_nil, partF, TI.agg, Nat.reduceLeDiff, List.take_zero, List.drop_zero, List.take_succ_cons, T3, T37, f0, f1, f7, f8, ci, ga]
      refine OpsW_sp hs (by simp only [upd_some, evalO, Nat.reduceEqDiff, if_true, if_false] <;> rfl) hpl rfl (by simp only [upd_some, evalT, evalO, ofConst, Nat.reduceEqDiff, if_true, if_false, List.zip_cons_cons, List.zip_nil_right, List.map_cons, List.map_nil, List.nil_append, List.cons_append, callArgs] <;> rfl) ?_
      cases b1 with
      | true =>
        simp only [Option.some.injEq, Prod.mk.injEq] at hc
        obtain ⟨rfl, rfl⟩ := hc
        simp only [W_region, W_seq, W_ret, OpsW_nil, OpsW_op, upd_some, Br_W1, opF, evalT, evalO, reduceCtorEq, Nat.reduceEqDiff, Option.map_some, Option.some.injEq, true_and, or_true, exists_eq_left', if_true, if_false, decide_eq_true_eq, resF, resAll, resOne]
        exact ⟨⟨(i : Int), rfl, by simp⟩, hI1⟩
      | false =>
        simp only at hc
        simp only [W_skip, OpsW_nil, upd_some, Br_W2, reduceCtorEq, Nat.reduceEqDiff, Option.map_some, true_and, if_true, if_false, f0, f1, f7, f8, hw]
        exact ⟨l.length - (i + 1), by omega, i + 1, rfl, H1, hI1, by omega, hc, rfl⟩
  · have hnil : l.drop i = [] := List.drop_eq_nil_of_le (by omega)
    rw [hnil, anyS] at hc
    simp only [Option.some.injEq, Prod.mk.injEq] at hc
    obtain ⟨rfl, rfl⟩ := hc
    simp only [W_region, W_seq, W_cond, W_block, W_exit, OpsW_nil, OpsW_op, upd_some, Br_W2, opF, evalT, evalO, ofConst, binF, intF, reduceCtorEq, Nat.reduceEqDiff, Option.map_some, Option.some.injEq, exists_eq_left', exists_and_left, if_true, if_false, decide_false, decide_eq_false_iff_not, partF, TI.agg, List.drop_zero, T3, T37, f7, f8, ci, resF, resAll, resOne]
    exact ⟨⟨-1, rfl, by decide⟩, hI⟩
theorem cfS_st {σ : Type} (l : List Int) (t : Tok) (f : FuncId) (caps : List PV) (v : σ → Int → Option (Bool × σ)) (Inv : Store → σ → Prop) (hp : StOk EE f caps v Inv) (hl : l.length < 9223372036854775808)
    (G : σ) (b : Bool) (G' : σ) (hv : anyS v G l = some (b, G')) (st0 : Store) (h0 : Inv st0 G) :
    SpecQ EE 60 [.sl 1 (ints l) t, .fn f caps] st0 fun r st' => r = .bool b ∧ Inv st' G' := by
  refine specQ_of_W ok ok60 (by simp) (by kernel_rfl) ?_
  unfold BodyW
  have e0 : code Go.Proofs.Tryz.f60 = code Go.Proofs.Tryz.f60 := rfl
  conv at e0 => rhs; simp only [code, Go.Proofs.Tryz.f60, Option.getD_some]
  rw [e0]
  clear e0
  obtain ⟨r, st1, hs, ⟨k, rfl, hk⟩, hI⟩ := ixS_st l t f caps v Inv hp hl G b G' hv st0 h0
  simp only [W_region, W_seq, W_ret, OpsW_nil, OpsW_op, upd_some, opF, evalT, evalO, ofConst, argFr, reduceCtorEq, Nat.reduceEqDiff, Option.getD_some, List.getElem?_cons_zero, List.getElem?_cons_succ, true_and, or_true, if_false]
  refine OpsW_sp hs (by simp only [evalO] <;> rfl) rfl rfl (by simp only [upd_some, evalT, evalO, ofConst, argFr, Nat.reduceEqDiff, Option.getD_none, List.getElem?_cons_succ, List.getElem?_nil, if_true, if_false, List.zip_cons_cons, List.zip_nil_right, List.map_cons, List.map_nil, List.nil_append, List.cons_append, callArgs] <;> rfl) ?_
  simp only [OpsW_nil, OpsW_op, upd_some, opF, evalT, evalO, ofConst, argFr, binF, intF, Nat.reduceEqDiff, Option.getD_none, Option.map_some, Option.some.injEq, List.getElem?_cons_succ, List.getElem?_nil, exists_eq_left', if_true, if_false, resF, resAll, resOne]
  exact ⟨by rw [← hk], hI⟩

/-! ### The state of the search -/
/-- A map of numbers: what it gives; 0 where it has none. -/
def getS (S : List (Int × Int)) (c : Int) : Int := match S.find? (fun p => p.1 == c) with | some p => p.2 | none => 0
def smap (S : List (Int × Int)) : List (PV × PV) := imap (fun p => p.1) (fun p => .int .i64 p.2) S
def MapIs (st : Store) (ms : Nat) (G : Int → Int) : Prop := ∃ S, st[ms]? = some (.map (smap S)) ∧ ∀ c, getS S c = G c
def putG (G : Int → Int) (c v : Int) : Int → Int := fun x => if x = c then v else G x
theorem look_s (S : List (Int × Int)) (c : Int) : (findF (.int .i64 c) (smap S) 0 = some none ∧ getS S c = 0 ∧ ∀ v, ∃ S', smap S ++ [(.int .i64 c, .int .i64 v)] = smap S' ∧ ∀ x, getS S' x = putG (getS S) c v x) ∨
    ∃ j, findF (.int .i64 c) (smap S) 0 = some (some (j, .int .i64 (getS S c))) ∧ ∀ v, ∃ S', (smap S).set j (.int .i64 c, .int .i64 v) = smap S' ∧ ∀ x, getS S' x = putG (getS S) c v x := by
  unfold smap
  rw [find_imap]
  cases hx : S.findIdx? (fun x => x.1 == c) with
  | none =>
    have hn := List.findIdx?_eq_none_iff.1 hx
    have hf : S.find? (fun p => p.1 == c) = none := by
      rw [List.find?_eq_none]; intro x h; simpa using hn x h
    refine .inl ⟨rfl, by rw [getS, hf], fun v => ⟨S ++ [(c, v)], by simp [imap], fun x => ?_⟩⟩
    unfold getS putG
    rw [List.find?_append]
    by_cases e : x = c
    · subst e
      rw [hf]; simp
    · have e' : (c == x) = false := by simp [Ne.symm e]
      rw [if_neg e]
      show _ = match S.find? (fun p => p.1 == x) with | some p => p.2 | none => 0
      cases hq : S.find? (fun p => p.1 == x) with
      | some q => rfl
      | none => simp [e']
  | some j =>
    obtain ⟨hj, h1, h2⟩ := List.findIdx?_eq_some_iff_getElem.1 hx
    have hf : S.find? (fun p => p.1 == c) = some S[j] := by
      rw [List.find?_eq_some_iff_getElem]
      exact ⟨h1, j, hj, rfl, fun i hi => by simpa using h2 i hi⟩
    have hjc : S[j].1 = c := by simpa using h1
    refine .inr ⟨0 + j, by rw [Option.map_some, List.getElem?_eq_getElem hj, getS, hf]; rfl, fun v => ⟨S.set j (c, v), by rw [Nat.zero_add]; simp [imap, List.map_set], fun x => ?_⟩⟩
    unfold getS putG
    by_cases e : x = c
    · subst e
      rw [if_pos rfl]
      have : (S.set j (x, v)).find? (fun p => p.1 == x) = some (x, v) := by
        rw [List.find?_eq_some_iff_getElem]
        refine ⟨by simp, j, by simpa using hj, by simp, fun i hi => ?_⟩
        rw [List.getElem_set_ne (by omega)]
        simpa using h2 i hi
      rw [this]
    · rw [if_neg e]
      have key : ∀ (S : List (Int × Int)) (j : Nat) (hj : j < S.length), S[j].1 = c → (S.set j (c, v)).find? (fun p => p.1 == x) = S.find? (fun p => p.1 == x) := by
        intro S
        induction S with
        | nil => intro j hj; simp at hj
        | cons p S ih =>
          intro j hj hc
          cases j with
          | zero =>
            have hc : p.1 = c := hc
            have e1 : (c == x) = false := by simp [Ne.symm e]
            have e2 : (p.1 == x) = false := by rw [hc]; exact e1
            simp [e1, e2]
          | succ j =>
            rw [List.set_cons_succ, List.find?_cons, List.find?_cons, ih j (by simpa using hj) (by simpa using hc)]
      rw [key S j hj hjc]
end Go.Pv.Ct
end
section
namespace Go.Pv.Ct
open Go.Pv Go.Proofs
set_option maxRecDepth 20000

def flatC (l : List Rg) : List PV := l.flatMap Rg.cells
theorem flatC_len : ∀ l : List Rg, (flatC l).length = l.length * 2
  | [] => rfl
  | r :: l => by
    have := flatC_len l
    simp only [flatC, List.flatMap_cons, List.length_append, Rg.cells, List.length_cons, List.length_nil] at this ⊢
    omega
theorem flatC_app (a b : List Rg) : flatC (a ++ b) = flatC a ++ flatC b := by simp [flatC]
theorem flatC_split {l : List Rg} {i : Nat} (h : i < l.length) : flatC l = flatC (l.take i) ++ ([.int .i64 l[i].lo, .int .i64 l[i].hi] ++ flatC (l.drop (i + 1))) ∧ (flatC (l.take i)).length = i * 2 := by
  refine ⟨?_, by rw [flatC_len, List.length_take]; congr 1; omega⟩
  conv => lhs; rw [← List.take_append_drop i l, List.drop_eq_getElem_cons h, flatC_app]
  rfl
theorem flat_load {l : List Rg} {i : Nat} (h : i < l.length) : List.take 2 (List.drop (i * 2) (flatC l)) = [.int .i64 l[i].lo, .int .i64 l[i].hi] := by
  obtain ⟨h1, h2⟩ := flatC_split h
  rw [h1, List.drop_append_of_le_length (by omega), ← h2, List.drop_length]
  simp
theorem flat_store {l : List Rg} {i : Nat} (h : i < l.length) (a b : Int) : List.take (i * 2) (flatC l) ++ [.int .i64 a, .int .i64 b] ++ List.drop (i * 2 + 2) (flatC l) = flatC (l.set i ⟨a, b⟩) := by
  obtain ⟨h1, h2⟩ := flatC_split h
  have e : l.set i ⟨a, b⟩ = l.take i ++ ⟨a, b⟩ :: l.drop (i + 1) := by rw [List.set_eq_take_append_cons_drop, if_pos h]
  rw [e, flatC_app]
  have e1 : List.take (i * 2) (flatC l) = flatC (l.take i) := by rw [h1, ← h2, List.take_left]
  have e2 : List.drop (i * 2 + 2) (flatC l) = flatC (l.drop (i + 1)) := by
    rw [h1, ← List.append_assoc, ← h2]
    have : (flatC (l.take i)).length + 2 = (flatC (l.take i) ++ [PV.int .i64 l[i].lo, PV.int .i64 l[i].hi]).length := by simp
    rw [this, List.drop_left]
  rw [e1, e2, List.append_assoc]
  rfl
theorem flat_hi {l : List Rg} {i : Nat} (h : i < l.length) : (flatC l)[i * 2 + 1]? = some (.int .i64 l[i].hi) := by
  obtain ⟨h1, h2⟩ := flatC_split h
  rw [h1, List.getElem?_append_right (by omega), h2, Nat.add_sub_cancel_left]
  rfl
theorem flat_store_hi {l : List Rg} {i : Nat} (h : i < l.length) (b : Int) : List.take (i * 2 + 1) (flatC l) ++ [.int .i64 b] ++ List.drop (i * 2 + 1 + 1) (flatC l) = flatC (l.set i ⟨l[i].lo, b⟩) := by
  rw [← flat_store h]
  obtain ⟨h1, h2⟩ := flatC_split h
  have e1 : List.take (i * 2) (flatC l) = flatC (l.take i) := by rw [h1, ← h2, List.take_left]
  have e2 : List.take (i * 2 + 1) (flatC l) = flatC (l.take i) ++ [.int .i64 l[i].lo] := by
    rw [h1, ← h2, List.take_append, List.take_of_length_le (by omega), show (flatC (l.take i)).length + 1 - (flatC (l.take i)).length = 1 by omega]
    rfl
  rw [e1, e2]
  simp

/-- All but one object is as it was. -/
def Keep (id : Nat) (a b : Store) : Prop := a.length ≤ b.length ∧ ∀ j o, j ≠ id → a[j]? = some o → b[j]? = some o
theorem Keep.refl (id : Nat) (a : Store) : Keep id a a := ⟨Nat.le_refl _, fun _ _ _ h => h⟩
theorem Keep.trans {id : Nat} {a b c : Store} (h : Keep id a b) (h' : Keep id b c) : Keep id a c := ⟨Nat.le_trans h.1 h'.1, fun j o hj e => h'.2 j o hj (h.2 j o hj e)⟩
theorem Keep.grows {id : Nat} {a b : Store} (h : Grows a b) : Keep id a b := by
  refine ⟨by obtain ⟨x, rfl⟩ := h; simp, fun j o _ e => h.get e⟩
theorem Keep.more {id : Nat} {a b : Store} (h : Keep id a b) (o : Ob) : Keep id a (b ++ [o]) := h.trans (.grows ⟨[o], rfl⟩)
theorem Keep.set {id : Nat} {a b : Store} (h : Keep id a b) (o : Ob) : Keep id a (b.set id o) :=
  ⟨by simpa using h.1, fun j o' hj e => by rw [get_set_ne _ (Ne.symm hj)]; exact h.2 j o' hj e⟩

theorem mk1_spec (a b : Rg) (st : Store) : Spec EE 152 [.agg a.cells, .agg b.cells] st (.int .i64 (order a.lo b.lo)) (st ++ [.cells a.cells] ++ [.cells b.cells]) := by
  refine spec_of_W ok ok152 (by simp) ?_
  unfold BodyW
  have e0 : code Go.Proofs.Tryz.f152 = code Go.Proofs.Tryz.f152 := rfl
  conv at e0 => rhs; simp only [code, Go.Proofs.Tryz.f152, Option.getD_some]
  rw [e0]
  clear e0
  have h1 : ∀ x y, (st ++ [x] ++ [y])[st.length]? = some x := fun x y => get_app (get_last _ _)
  simp only [W_region, W_seq, W_ret, OpsW_nil, OpsW_op, upd_some, opF, evalT, evalO, ofConst, argFr, reduceCtorEq, Nat.reduceEqDiff, Nat.reduceAdd, Option.getD_some, Option.getD_none, Option.map_some, List.getElem?_cons_zero, List.getElem?_cons_succ, List.getElem?_nil, Nat.succ_ne_zero, and_self, true_and, or_true, if_true, if_false, Bool.false_eq_true, List.length_cons, List.length_nil, partF, TI.agg, scal, isAgg, cellsOf, Bool.or_true, Nat.reduceLeDiff, List.take_zero, List.drop_zero, List.take_succ_cons, T3, T119, Rg.cells, h1, get_last]
  refine OpsW_pl (cmp_plain a.lo b.lo) rfl rfl (by simp only [upd_some, evalT, evalO, ofConst, argFr, Nat.reduceEqDiff, Option.getD_none, List.getElem?_cons_succ, List.getElem?_nil, if_true, if_false, List.zip_cons_cons, List.zip_nil_right, List.map_cons, List.map_nil, callArgs, strips, strip_int] <;> rfl) ?_
  simp only [OpsW_nil, OpsW_op, upd_some, opF, evalT, evalO, argFr, Nat.reduceEqDiff, Option.getD_none, Option.map_some, Option.some.injEq, List.getElem?_cons_succ, List.getElem?_nil, and_self, exists_eq_left', if_true, if_false, resF, resAll, resOne]

/-! ### The insertion sort -/
def rg0 : Rg := ⟨0, 0⟩
/-- An element is moved in front of those that are greater. -/
def sink : Nat → List Rg → List Rg
  | 0, l => l
  | j + 1, l => if order (l.getD (j + 1) rg0).lo (l.getD j rg0).lo < 0 then sink j ((l.set (j + 1) (l.getD j rg0)).set j (l.getD (j + 1) rg0)) else l
def insK : Nat → Nat → List Rg → List Rg
  | 0, _, l => l
  | k + 1, i, l => insK k (i + 1) (sink i l)
def sortR (l : List Rg) : List Rg := insK (l.length - 1) 1 l
theorem getD_at {l : List Rg} {i : Nat} (h : i < l.length) : l.getD i rg0 = l[i] := by simp [List.getD, h]
theorem sink_len : ∀ (j : Nat) (l : List Rg), (sink j l).length = l.length
  | 0, _ => rfl
  | j + 1, l => by
    unfold sink
    split
    · rw [sink_len j]; simp
    · rfl
set_option maxHeartbeats 8000000 in
theorem ins_spec (l : List Rg) (id : Nat) (st0 : Store) (hl : l.length < 4611686018427387904) (h : st0[id]? = some (.cells (flatC l))) :
    SpecQ EE 175 [.osl id (l.length * 2) 0 l.length 2, .int .i64 0, .int .i64 l.length, .fn 152 []] st0 fun r st' => r = .tup [] ∧ st'[id]? = some (.cells (flatC (sortR l))) ∧ Keep id st0 st' := by
  refine specQ_of_W ok ok175 (by simp) (by kernel_rfl) ?_
  unfold BodyW
  have e0 : code Go.Proofs.Tryz.f175 = code Go.Proofs.Tryz.f175 := rfl
  conv at e0 => rhs; simp only [code, Go.Proofs.Tryz.f175, Option.getD_some]
  rw [e0]
  clear e0
  have hw1 : IntKind.i64.wrap 1 = 1 := by decide
  simp only [W_region, W_seq, W_block, OpsW_nil, OpsW_op, upd_some, opF, evalT, evalO, ofConst, argFr, binF, intF, reduceCtorEq, Nat.reduceEqDiff, Option.getD_some, Option.getD_none, Option.map_some, List.getElem?_cons_zero, List.getElem?_cons_succ, List.getElem?_nil, true_and, or_false, if_true, if_false, Int.reduceAdd, hw1]
  refine W_loop (fun m fr st => ∃ (i : Nat) (cur : List Rg), fr 0 = .osl id (l.length * 2) 0 l.length 2 ∧ fr 1 = .int .i64 0 ∧ fr 2 = .int .i64 l.length ∧ fr 3 = .fn 152 [] ∧ fr 8 = .int .i64 i ∧ st[id]? = some (.cells (flatC cur)) ∧ Keep id st0 st ∧ cur.length = l.length ∧ 1 ≤ i ∧ insK (l.length - i) i cur = sortR l ∧ m = l.length - i) ?_ (l.length - 1) _ _
    ⟨1, l, by simp [upd, argFr], by simp [upd, argFr], by simp [upd, argFr], by simp [upd, argFr], by simp [upd], h, .refl _ _, rfl, by omega, rfl, rfl⟩
  rintro m fr st ⟨i, cur, f0, f1, f2, f3, f8, s0, k0, hlen, hi, hins, rfl⟩
  by_cases ci : (i : Int) < (l.length : Int)
  · have hwi : IntKind.i64.wrap ((i : Int) + 1) = ((i + 1 : Nat) : Int) := by rw [wrap_small (by omega) (by omega)]; rfl
    have hstep : insK (l.length - i) i cur = insK (l.length - (i + 1)) (i + 1) (sink i cur) := by
      rw [show l.length - i = (l.length - (i + 1)) + 1 by omega, insK]
    rw [hstep] at hins
    simp only [W_skip, W_region, W_seq, W_cond, W_block, OpsW_nil, OpsW_op, upd_some, Br_W1, opF, evalT, evalO, ofConst, binF, intF, reduceCtorEq, Nat.reduceEqDiff, Option.map_some, exists_and_left, if_true, if_false, decide_true, f2, f8, ci]
    refine W_loop (fun m fr st => ∃ (j : Nat) (c2 : List Rg), fr 0 = .osl id (l.length * 2) 0 l.length 2 ∧ fr 1 = .int .i64 0 ∧ fr 2 = .int .i64 l.length ∧ fr 3 = .fn 152 [] ∧ fr 8 = .int .i64 i ∧ fr 9 = .int .i64 j ∧ st[id]? = some (.cells (flatC c2)) ∧ Keep id st0 st ∧ c2.length = l.length ∧ j ≤ i ∧ sink j c2 = sink i cur ∧ m = j + 1) ?_ (i + 1) _ _
      ⟨i, cur, by simp [upd, f0], by simp [upd, f1], by simp [upd, f2], by simp [upd, f3], by simp [upd, f8], by simp [upd], s0, k0, hlen, by omega, rfl, rfl⟩
    clear f0 f1 f2 f3 f8 s0 k0
    rintro m fr st ⟨j, c2, f0, f1, f2, f3, f8, f9, s0, k0, hl2, hj, hs, rfl⟩
    by_cases cj : (j : Int) > 0
    · obtain ⟨k, rfl⟩ : ∃ k, j = k + 1 := ⟨j - 1, by omega⟩
      have i1 : k + 1 < c2.length := by omega
      have i0 : k < c2.length := by omega
      have j1 : k + 1 < l.length := by omega
      have j0 : k < l.length := by omega
      have l1 := flat_load i1
      have l0 := flat_load i0
      have b1 : (k + 1) * 2 + 2 ≤ l.length * 2 := by omega
      have b0 : k * 2 + 2 ≤ l.length * 2 := by omega
      have hw : IntKind.i64.wrap (((k + 1 : Nat) : Int) - 1) = ((k : Nat) : Int) := by rw [wrap_small (by omega) (by omega)]; omega
      have hlt : ∀ x y : Ob, id < (st ++ [x] ++ [y]).length := fun x y => by have := get_lt s0; simp; omega
      have s1 : ∀ x y : Ob, (st ++ [x] ++ [y])[id]? = some (.cells (flatC c2)) := fun x y => get_app (get_app s0)
      have s2 : ∀ x y o : Ob, ((st ++ [x] ++ [y]).set id o)[id]? = some o := fun x y o => get_set_eq (hlt x y) o
      have hsk : sink (k + 1) c2 = if order c2[k + 1].lo c2[k].lo < 0 then sink k ((c2.set (k + 1) c2[k]).set k c2[k + 1]) else c2 := by
        rw [sink, getD_at i1, getD_at i0]
      rw [hsk] at hs
      have hx : idxN (.int .i64 ((k : Nat) : Int)) = some k := idxN_nat k
      have hy : idxN (.int .i64 ((k + 1 : Nat) : Int)) = some (k + 1) := idxN_nat (k + 1)
      simp only [W_region, W_seq, W_cond, W_block, OpsW_nil, OpsW_op, OpsW_guard, upd_some, upd_none, Br_O1, opF, evalT, evalO, ofConst, binF, intF, reduceCtorEq, Nat.reduceEqDiff, Option.map_some, Option.bind_some, List.getElem?_toArray, List.getElem?_cons_zero, List.getElem?_cons_succ, and_self, exists_and_left, if_true, if_false, decide_true, beq_self_eq_true, partF, TI.agg, scal, isAgg, cellsOf, splice, List.drop_zero, W_regionD, xrE, T32, T119, f0, f1, f3, f9, cj, hw, hx, hy, j1, j0, Nat.zero_add, s0, flatC_len, hl2, b1, b0, l1, l0]
      refine OpsW_sp (mk1_spec c2[k + 1] c2[k] st) (by simp only [upd_some, evalO, Nat.reduceEqDiff, if_true, if_false] <;> rfl) rfl rfl (by simp only [upd_some, evalT, evalO, ofConst, Nat.reduceEqDiff, if_true, if_false, List.zip_cons_cons, List.zip_nil_right, List.map_cons, List.map_nil, List.nil_append, List.cons_append, callArgs, Rg.cells] <;> rfl) ?_
      by_cases lt : order c2[k + 1].lo c2[k].lo < 0
      · rw [if_pos lt] at hs
        have t1 := flat_store i1 c2[k].lo c2[k].hi
        have t2 := flat_store (l := c2.set (k + 1) ⟨c2[k].lo, c2[k].hi⟩) (i := k) (by simpa using i0) c2[k + 1].lo c2[k + 1].hi
        have t3 : (c2.set (k + 1) ⟨c2[k].lo, c2[k].hi⟩).length = l.length := by simpa using hl2
        simp only [W_skip, OpsW_nil, OpsW_op, OpsW_guard, upd_some, Br_W1, Br_O1, opF, evalO, ofConst, binF, intF, reduceCtorEq, Nat.reduceEqDiff, Nat.reduceAdd, Option.map_some, Option.bind_some, Option.some.injEq, List.getElem?_toArray, List.getElem?_cons_zero, List.getElem?_cons_succ, and_self, true_and, if_true, if_false, decide_true, beq_self_eq_true, List.length_cons, List.length_nil, Bool.or_true, T119, f0, f1, f2, f3, f8, f9, lt, hw, hx, hy, j1, j0, Nat.zero_add, s1, s2, flatC_len, hl2, b1, b0, l1, l0, t1, t2, t3, List.set_set]
        exact ⟨k + 1, by omega, k, rfl, _, rfl, ((k0.more _).more _).set _, by simpa using hl2, by omega, hs, rfl⟩
      · rw [if_neg lt] at hs
        subst hs
        simp only [W_exit, OpsW_nil, OpsW_op, OpsW_guard, upd_some, Br_W2, Br_O1, opF, evalO, ofConst, binF, intF, reduceCtorEq, Nat.reduceEqDiff, Option.map_some, Option.bind_some, List.getElem?_toArray, List.getElem?_cons_zero, List.getElem?_cons_succ, Nat.succ_ne_zero, true_and, if_true, if_false, decide_false, beq_self_eq_true, f0, f1, f2, f3, f8, lt, hwi]
        exact ⟨l.length - (i + 1), by omega, i + 1, rfl, _, s1 _ _, (k0.more _).more _, by rw [sink_len]; exact hlen, by omega, hins, rfl⟩
    · have hj0 : j = 0 := by omega
      subst hj0
      have hs : c2 = sink i cur := hs
      subst hs
      simp only [W_region, W_seq, W_cond, W_block, W_exit, OpsW_nil, OpsW_op, OpsW_guard, upd_some, upd_none, Br_W2, Br_O2, opF, evalT, evalO, ofConst, binF, intF, reduceCtorEq, Nat.reduceEqDiff, Nat.reduceAdd, Option.map_some, Option.bind_some, List.getElem?_toArray, List.getElem?_cons_zero, List.getElem?_cons_succ, Nat.succ_ne_zero, true_and, exists_and_left, if_true, if_false, decide_false, Bool.false_eq_true, Bool.false_beq, Bool.not_true, partF, TI.agg, scal, isAgg, cellsOf, splice, List.drop_zero, W_regionD, xrE, T32, T119, f0, f1, f2, f3, f8, f9, cj, hwi]
      exact ⟨l.length - (i + 1), by omega, i + 1, rfl, _, s0, k0, by rw [sink_len]; exact hlen, by omega, hins, rfl⟩
  · have : l.length - i = 0 := by omega
    rw [this] at hins
    have hins : cur = sortR l := hins
    subst hins
    simp only [W_region, W_seq, W_cond, W_block, W_exit, OpsW_nil, OpsW_op, upd_some, Br_W2, opF, evalT, evalO, ofConst, binF, intF, reduceCtorEq, Nat.reduceEqDiff, Option.map_some, Option.some.injEq, true_and, exists_eq_left', exists_and_left, if_true, if_false, decide_false, f2, f8, ci, resF, resAll]
    exact ⟨s0, k0⟩
end Go.Pv.Ct
end
section
namespace Go.Pv.Ct
open Go.Pv Go.Proofs
set_option maxRecDepth 20000

abbrev Marks := Int → Int
def visitStep (l : List Mp) (compat : Bool) (v : Marks → Int → Option (Bool × Marks)) (G : Marks) (c : Int) : Option (Bool × Marks) :=
  match onceF l compat c with
  | none => some (false, G)
  | some to => if G c = 2 then some (false, G) else if G c = 1 then some (true, G) else
    match anyS v (putG G c 1) to with
    | none => none
    | some (b, G') => some (b, putG G' c 2)
/-- The visit of a number, at most so deep. -/
def visitF (l : List Mp) (compat : Bool) : Nat → Marks → Int → Option (Bool × Marks)
  | 0 => visitStep l compat fun _ _ => none
  | k + 1 => visitStep l compat (visitF l compat k)
/-- What the visit finds in the store. -/
structure VInv (s0 : Store) (i1 i3 i4 ms id m f : Nat) (l : List Mp) (compat : Bool) (st : Store) (G : Marks) : Prop where
  d : st[i1]? = some (.cells [.optr id 3 0])
  s : st[i3]? = some (.cells [.map ms])
  v : st[i4]? = some (.cells [.fn 133 [.optr i1 1 0, .optr i3 1 0, .optr i4 1 0]])
  data : DataAt st id m f l compat
  ne : ms ≠ m
  marks : MapIs st ms G
  keep : Keep ms s0 st
theorem VInv.grows {s0 : Store} {i1 i3 i4 ms id m f : Nat} {l : List Mp} {compat : Bool} {st st' : Store} {G : Marks} (h : VInv s0 i1 i3 i4 ms id m f l compat st G) (g : Grows st st') : VInv s0 i1 i3 i4 ms id m f l compat st' G :=
  ⟨g.get h.d, g.get h.s, g.get h.v, ⟨g.get h.data.data, g.get h.data.maps⟩, h.ne, by obtain ⟨S, h1, h2⟩ := h.marks; exact ⟨S, g.get h1, h2⟩, h.keep.trans (.grows g)⟩
theorem VInv.set {s0 : Store} {i1 i3 i4 ms id m f : Nat} {l : List Mp} {compat : Bool} {st : Store} {G G' : Marks} (h : VInv s0 i1 i3 i4 ms id m f l compat st G) (S : List (Int × Int)) (hS : ∀ x, getS S x = G' x) :
    VInv s0 i1 i3 i4 ms id m f l compat (st.set ms (.map (smap S))) G' := by
  obtain ⟨S0, h1, _⟩ := h.marks
  have ne : ∀ i cs, st[i]? = some (.cells cs) → ms ≠ i := fun i cs e q => by subst q; rw [h1] at e; cases e
  exact ⟨by rw [get_set_ne _ (ne _ _ h.d)]; exact h.d, by rw [get_set_ne _ (ne _ _ h.s)]; exact h.s, by rw [get_set_ne _ (ne _ _ h.v)]; exact h.v,
    ⟨by rw [get_set_ne _ (ne _ _ h.data.data)]; exact h.data.data, by rw [get_set_ne _ h.ne]; exact h.data.maps⟩, h.ne, ⟨S, get_set_eq (get_lt h1) _, hS⟩, h.keep.set _⟩
def ToShort (l : List Mp) (compat : Bool) : Prop := ∀ c to, onceF l compat c = some to → to.length < 9223372036854775808
set_option maxHeartbeats 8000000 in
theorem visit_step (s0 : Store) (i1 i3 i4 ms id m f : Nat) (l : List Mp) (compat : Bool) (hto : ToShort l compat) (w : Marks → Int → Option (Bool × Marks))
    (hw : StOk EE 133 [.optr i1 1 0, .optr i3 1 0, .optr i4 1 0] w (VInv s0 i1 i3 i4 ms id m f l compat)) :
    StOk EE 133 [.optr i1 1 0, .optr i3 1 0, .optr i4 1 0] (visitStep l compat w) (VInv s0 i1 i3 i4 ms id m f l compat) := by
  refine ⟨rfl, fun G x b G' hv st hI => ?_⟩
  refine specQ_of_W ok ok133 (by simp) (by kernel_rfl) ?_
  unfold BodyW
  have e0 : code Go.Proofs.Tryz.f133 = code Go.Proofs.Tryz.f133 := rfl
  conv at e0 => rhs; simp only [code, Go.Proofs.Tryz.f133, Option.getD_some]
  rw [e0]
  clear e0
  obtain ⟨r1, st1, hs1, ⟨t, rfl⟩, hg1⟩ := once_spec hI.data x
  have p1 := hI.d
  simp only [W_region, W_seq, W_cond, W_block, W_ret, OpsW_nil, OpsW_op, OpsW_guard, upd_some, upd_none, opF, evalT, evalO, ofConst, argFr, unF, reduceCtorEq, Nat.reduceEqDiff, Nat.reduceAdd, Option.getD_some, Option.map_some, Option.bind_some, List.getElem?_toArray, List.getElem?_cons_zero, List.getElem?_cons_succ, true_and, or_true, or_false, if_true, if_false, Bool.false_eq_true, List.length_cons, List.length_nil, partF, TI.agg, isAgg, Nat.reduceLeDiff, List.take_zero, List.drop_zero, List.take_succ_cons, List.nil_append, List.cons_append, T3, T63, T80, T155, p1]
  refine OpsW_sp hs1 (by simp only [evalO] <;> rfl) rfl rfl (by simp only [upd_some, evalT, evalO, ofConst, argFr, Nat.reduceEqDiff, Option.getD_none, List.getElem?_cons_succ, List.getElem?_nil, if_true, if_false, List.zip_cons_cons, List.zip_nil_right, List.map_cons, List.map_nil, List.nil_append, List.cons_append, callArgs] <;> rfl) ?_
  have hIg := hI.grows hg1
  obtain ⟨S, hS, hSG⟩ := hIg.marks
  have p3 := hIg.s
  have p4 := hIg.v
  unfold visitStep at hv
  cases ho : onceF l compat x with
  | none =>
    rw [ho] at hv
    simp only [Option.some.injEq, Prod.mk.injEq] at hv
    obtain ⟨rfl, rfl⟩ := hv
    simp only [W_region, W_seq, W_ret, OpsW_nil, OpsW_op, OpsW_guard, upd_some, Br_W1, Br_O2, opF, evalT, evalO, ofConst, argFr, reduceCtorEq, Nat.reduceEqDiff, Option.getD_none, Option.map_some, Option.bind_some, Option.some.injEq, List.getElem?_toArray, List.getElem?_cons_zero, List.getElem?_cons_succ, List.getElem?_nil, true_and, or_true, exists_eq_left', if_true, if_false, Bool.true_beq, Bool.not_false, Option.isSome_none, resF, resAll, resOne]
    exact hIg
  | some to =>
    rw [ho] at hv
    simp only at hv
    rcases look_s S x with ⟨hf, hg0, hput⟩ | ⟨j, hf, hput⟩
    · have hb2 : ((0 : Int) == 2) = false := rfl
      have hb1 : ((0 : Int) == 1) = false := rfl
      have hgc2 : ¬ G x = 2 := by
        rw [← hSG]
        simp [hg0]
      have hgc1 : ¬ G x = 1 := by
        rw [← hSG]
        simp [hg0]
      rw [if_neg hgc2, if_neg hgc1] at hv
      obtain ⟨S1, e1, hS1⟩ := hput 1
      have hI1 : VInv s0 i1 i3 i4 ms id m f l compat (st1.set ms (.map (smap S1))) (putG G x 1) := hIg.set S1 (fun y => by rw [hS1]; simp only [putG, hSG])
      have hms : ms < st1.length := get_lt hS
      have q3 := hI1.s
      have q4 := hI1.v
      cases ha : anyS w (putG G x 1) to with
      | none => rw [ha] at hv; cases hv
      | some q =>
        obtain ⟨b2, G2⟩ := q
        rw [ha] at hv
        simp only [Option.some.injEq, Prod.mk.injEq] at hv
        obtain ⟨rfl, rfl⟩ := hv
        obtain ⟨r2, st2, hs2, rfl, hI2⟩ := cfS_st to (tk t) 133 [.optr i1 1 0, .optr i3 1 0, .optr i4 1 0] w (VInv s0 i1 i3 i4 ms id m f l compat) hw (hto x to ho) _ _ _ ha _ hI1
        simp only [W_skip, W_region, W_seq, W_cond, OpsW_nil, OpsW_op, OpsW_guard, upd_some, Br_W2, Br_O1, opF, evalT, evalO, ofConst, argFr, binF, intF, reduceCtorEq, Nat.reduceEqDiff, Nat.reduceAdd, Option.getD_some, Option.getD_none, Option.map_some, Option.bind_some, List.getElem?_toArray, List.getElem?_cons_zero, List.getElem?_cons_succ, List.getElem?_nil, if_true, if_false, Bool.false_eq_true, beq_self_eq_true, Bool.not_true, List.length_cons, List.length_nil, partF, TI.agg, Nat.reduceLeDiff, Option.isSome_some, List.take_zero, List.drop_zero, List.take_succ_cons, List.headD_cons, T3, T155, hS, p3, hf, keyK, mapEs, valOf, hb2, hb1, e1, q4]
        refine OpsW_sp hs2 (by simp only [evalO] <;> rfl) rfl rfl (by simp only [upd_some, evalT, evalO, ofConst, argFr, Nat.reduceEqDiff, Option.getD_none, List.getElem?_cons_succ, List.getElem?_nil, if_true, if_false, List.zip_cons_cons, List.zip_nil_right, List.map_cons, List.map_nil, List.nil_append, List.cons_append, callArgs] <;> rfl) ?_
        obtain ⟨S2, hS2, hSG2⟩ := hI2.marks
        have u3 := hI2.s
        rcases look_s S2 x with ⟨hf2, hg2, hput2⟩ | ⟨j2, hf2, hput2⟩
        · obtain ⟨S3, e3, hS3⟩ := hput2 2
          simp only [OpsW_nil, OpsW_op, upd_some, opF, evalT, evalO, argFr, reduceCtorEq, Nat.reduceEqDiff, Nat.reduceAdd, Option.getD_some, Option.getD_none, Option.map_some, Option.some.injEq, List.getElem?_cons_zero, List.getElem?_cons_succ, List.getElem?_nil, true_and, exists_eq_left', if_true, if_false, Bool.false_eq_true, List.length_cons, List.length_nil, Nat.reduceLeDiff, List.take_zero, List.drop_zero, List.take_succ_cons, hS2, u3, hf2, e3, resF, resAll, resOne]
          exact hI2.set S3 (fun y => by rw [hS3]; simp only [putG, hSG2])
        · obtain ⟨S3, e3, hS3⟩ := hput2 2
          simp only [OpsW_nil, OpsW_op, upd_some, opF, evalT, evalO, argFr, reduceCtorEq, Nat.reduceEqDiff, Nat.reduceAdd, Option.getD_some, Option.getD_none, Option.map_some, Option.some.injEq, List.getElem?_cons_zero, List.getElem?_cons_succ, List.getElem?_nil, true_and, exists_eq_left', if_true, if_false, Bool.false_eq_true, List.length_cons, List.length_nil, Nat.reduceLeDiff, List.take_zero, List.drop_zero, List.take_succ_cons, hS2, u3, hf2, e3, resF, resAll, resOne]
          exact hI2.set S3 (fun y => by rw [hS3]; simp only [putG, hSG2])
    · by_cases c2 : getS S x = 2
      · have hb2 : (getS S x == 2) = true := by simp [c2]
        rw [if_pos (by rw [← hSG]; exact c2)] at hv
        simp only [Option.some.injEq, Prod.mk.injEq] at hv
        obtain ⟨rfl, rfl⟩ := hv
        simp only [W_region, W_seq, W_ret, OpsW_nil, OpsW_op, OpsW_guard, upd_some, Br_W1, Br_O1, opF, evalT, evalO, ofConst, argFr, binF, intF, reduceCtorEq, Nat.reduceEqDiff, Nat.reduceAdd, Option.getD_some, Option.getD_none, Option.map_some, Option.bind_some, Option.some.injEq, List.getElem?_toArray, List.getElem?_cons_zero, List.getElem?_cons_succ, List.getElem?_nil, true_and, or_true, exists_eq_left', if_true, if_false, Bool.false_eq_true, beq_self_eq_true, Bool.not_true, List.length_cons, List.length_nil, partF, TI.agg, Nat.reduceLeDiff, Option.isSome_some, List.take_zero, List.drop_zero, List.take_succ_cons, T3, T155, hS, p3, hf, keyK, mapEs, hb2, resF, resAll, resOne]
        exact hIg
      · have hb2 : (getS S x == 2) = false := by simp [c2]
        by_cases c1 : getS S x = 1
        · have hb1 : (getS S x == 1) = true := by simp [c1]
          rw [if_neg (by rw [← hSG]; exact c2), if_pos (by rw [← hSG]; exact c1)] at hv
          simp only [Option.some.injEq, Prod.mk.injEq] at hv
          obtain ⟨rfl, rfl⟩ := hv
          simp only [W_region, W_seq, W_cond, W_ret, OpsW_nil, OpsW_op, OpsW_guard, upd_some, Br_W1, Br_W2, Br_O1, opF, evalT, evalO, ofConst, argFr, binF, intF, reduceCtorEq, Nat.reduceEqDiff, Nat.reduceAdd, Option.getD_some, Option.getD_none, Option.map_some, Option.bind_some, Option.some.injEq, List.getElem?_toArray, List.getElem?_cons_zero, List.getElem?_cons_succ, List.getElem?_nil, true_and, or_true, exists_eq_left', if_true, if_false, Bool.false_eq_true, beq_self_eq_true, Bool.not_true, List.length_cons, List.length_nil, partF, TI.agg, Nat.reduceLeDiff, Option.isSome_some, List.take_zero, List.drop_zero, List.take_succ_cons, T3, T155, hS, p3, hf, keyK, mapEs, hb2, hb1, resF, resAll, resOne]
          exact hIg
        · have hb1 : (getS S x == 1) = false := by simp [c1]
          have hgc2 : ¬ G x = 2 := by
            rw [← hSG]
            exact c2
          have hgc1 : ¬ G x = 1 := by
            rw [← hSG]
            exact c1
          rw [if_neg hgc2, if_neg hgc1] at hv
          obtain ⟨S1, e1, hS1⟩ := hput 1
          have hI1 : VInv s0 i1 i3 i4 ms id m f l compat (st1.set ms (.map (smap S1))) (putG G x 1) := hIg.set S1 (fun y => by rw [hS1]; simp only [putG, hSG])
          have hms : ms < st1.length := get_lt hS
          have q3 := hI1.s
          have q4 := hI1.v
          cases ha : anyS w (putG G x 1) to with
          | none => rw [ha] at hv; cases hv
          | some q =>
            obtain ⟨b2, G2⟩ := q
            rw [ha] at hv
            simp only [Option.some.injEq, Prod.mk.injEq] at hv
            obtain ⟨rfl, rfl⟩ := hv
            obtain ⟨r2, st2, hs2, rfl, hI2⟩ := cfS_st to (tk t) 133 [.optr i1 1 0, .optr i3 1 0, .optr i4 1 0] w (VInv s0 i1 i3 i4 ms id m f l compat) hw (hto x to ho) _ _ _ ha _ hI1
            simp only [W_skip, W_region, W_seq, W_cond, OpsW_nil, OpsW_op, OpsW_guard, upd_some, Br_W2, Br_O1, opF, evalT, evalO, ofConst, argFr, binF, intF, reduceCtorEq, Nat.reduceEqDiff, Nat.reduceAdd, Option.getD_some, Option.getD_none, Option.map_some, Option.bind_some, List.getElem?_toArray, List.getElem?_cons_zero, List.getElem?_cons_succ, List.getElem?_nil, if_true, if_false, Bool.false_eq_true, beq_self_eq_true, Bool.not_true, List.length_cons, List.length_nil, partF, TI.agg, Nat.reduceLeDiff, Option.isSome_some, List.take_zero, List.drop_zero, List.take_succ_cons, T3, T155, hS, p3, hf, keyK, mapEs, hb2, hb1, e1, q4]
            refine OpsW_sp hs2 (by simp only [evalO] <;> rfl) rfl rfl (by simp only [upd_some, evalT, evalO, ofConst, argFr, Nat.reduceEqDiff, Option.getD_none, List.getElem?_cons_succ, List.getElem?_nil, if_true, if_false, List.zip_cons_cons, List.zip_nil_right, List.map_cons, List.map_nil, List.nil_append, List.cons_append, callArgs] <;> rfl) ?_
            obtain ⟨S2, hS2, hSG2⟩ := hI2.marks
            have u3 := hI2.s
            rcases look_s S2 x with ⟨hf2, hg2, hput2⟩ | ⟨j2, hf2, hput2⟩
            · obtain ⟨S3, e3, hS3⟩ := hput2 2
              simp only [OpsW_nil, OpsW_op, upd_some, opF, evalT, evalO, argFr, reduceCtorEq, Nat.reduceEqDiff, Nat.reduceAdd, Option.getD_some, Option.getD_none, Option.map_some, Option.some.injEq, List.getElem?_cons_zero, List.getElem?_cons_succ, List.getElem?_nil, true_and, exists_eq_left', if_true, if_false, Bool.false_eq_true, List.length_cons, List.length_nil, Nat.reduceLeDiff, List.take_zero, List.drop_zero, List.take_succ_cons, hS2, u3, hf2, e3, resF, resAll, resOne]
              exact hI2.set S3 (fun y => by rw [hS3]; simp only [putG, hSG2])
            · obtain ⟨S3, e3, hS3⟩ := hput2 2
              simp only [OpsW_nil, OpsW_op, upd_some, opF, evalT, evalO, argFr, reduceCtorEq, Nat.reduceEqDiff, Nat.reduceAdd, Option.getD_some, Option.getD_none, Option.map_some, Option.some.injEq, List.getElem?_cons_zero, List.getElem?_cons_succ, List.getElem?_nil, true_and, exists_eq_left', if_true, if_false, Bool.false_eq_true, List.length_cons, List.length_nil, Nat.reduceLeDiff, List.take_zero, List.drop_zero, List.take_succ_cons, hS2, u3, hf2, e3, resF, resAll, resOne]
              exact hI2.set S3 (fun y => by rw [hS3]; simp only [putG, hSG2])
theorem visit_ok (s0 : Store) (i1 i3 i4 ms id m f : Nat) (l : List Mp) (compat : Bool) (hto : ToShort l compat) : ∀ k, StOk EE 133 [.optr i1 1 0, .optr i3 1 0, .optr i4 1 0] (visitF l compat k) (VInv s0 i1 i3 i4 ms id m f l compat)
  | 0 => visit_step s0 i1 i3 i4 ms id m f l compat hto _ ⟨rfl, fun _ _ _ _ h => by cases h⟩
  | k + 1 => visit_step s0 i1 i3 i4 ms id m f l compat hto _ (visit_ok s0 i1 i3 i4 ms id m f l compat hto k)
end Go.Pv.Ct
end
section
namespace Go.Pv.Ct
open Go.Pv Go.Proofs

section
variable (l : List Mp) (compat : Bool)
def Edge (a b : Int) : Prop := ∃ to, onceF l compat a = some to ∧ b ∈ to
inductive Reach : Int → Int → Prop
  | one {a b : Int} (h : Edge l compat a b) : Reach a b
  | more {a b c : Int} (h : Edge l compat a b) (h' : Reach b c) : Reach a c
def HasCyc : Prop := ∃ x, Reach l compat x x
/-- Numbers can be ranked so that each one's parts stand lower. -/
def Acyc : Prop := ∃ rank : Int → Nat, ∀ c to x, onceF l compat c = some to → x ∈ to → onceF l compat x ≠ none → rank x < rank c
end
variable {l : List Mp} {compat : Bool}
theorem Reach.trans {a b c : Int} (h : Reach l compat a b) (h' : Reach l compat b c) : Reach l compat a c := by
  induction h with
  | one e => exact .more e h'
  | more e _ ih => exact .more e (ih h')
theorem Reach.src {a b : Int} (h : Reach l compat a b) : onceF l compat a ≠ none := by
  cases h with
  | one e => obtain ⟨to, h, _⟩ := e; rw [h]; simp
  | more e _ => obtain ⟨to, h, _⟩ := e; rw [h]; simp
theorem acyc_none (h : Acyc l compat) : ¬ HasCyc l compat := by
  obtain ⟨rank, hr⟩ := h
  have key : ∀ a b, Reach l compat a b → onceF l compat b ≠ none → rank b < rank a := by
    intro a b h
    induction h with
    | one e => obtain ⟨to, h1, h2⟩ := e; exact fun hb => hr _ to _ h1 h2 hb
    | more e h' ih =>
      intro hb
      obtain ⟨to, h1, h2⟩ := e
      exact Nat.lt_trans (ih hb) (hr _ to _ h1 h2 h'.src)
  rintro ⟨x, hx⟩
  exact Nat.lt_irrefl _ (key x x hx hx.src)
/-- The numbers that are done: ranked. -/
def GoodM (l : List Mp) (compat : Bool) (G : Marks) : Prop :=
  ∃ rank : Int → Nat, ∀ c, G c = 2 → ∃ to, onceF l compat c = some to ∧ ∀ x ∈ to, onceF l compat x = none ∨ (G x = 2 ∧ rank x < rank c)
def SemOk (l : List Mp) (compat : Bool) (w : Marks → Int → Option (Bool × Marks)) : Prop :=
  ∀ G c b G', w G c = some (b, G') → GoodM l compat G → (∀ g, G g = 1 → Reach l compat g c) →
    (b = true → HasCyc l compat) ∧ (b = false → GoodM l compat G' ∧ (∀ g, G' g = 1 ↔ G g = 1) ∧ (∀ g, G g = 2 → G' g = 2) ∧ (onceF l compat c = none ∨ G' c = 2))
theorem any_sem {w : Marks → Int → Option (Bool × Marks)} (hw : SemOk l compat w) : ∀ (xs : List Int) (G : Marks) (b : Bool) (G' : Marks), anyS w G xs = some (b, G') → GoodM l compat G → (∀ g, G g = 1 → ∀ x ∈ xs, Reach l compat g x) →
    (b = true → HasCyc l compat) ∧ (b = false → GoodM l compat G' ∧ (∀ g, G' g = 1 ↔ G g = 1) ∧ (∀ g, G g = 2 → G' g = 2) ∧ ∀ x ∈ xs, onceF l compat x = none ∨ G' x = 2)
  | [], G, b, G', h, hg, _ => by
    simp only [anyS, Option.some.injEq, Prod.mk.injEq] at h
    obtain ⟨rfl, rfl⟩ := h
    exact ⟨fun e => (by cases e), fun _ => ⟨hg, fun _ => Iff.rfl, fun _ h => h, fun x hx => by simp at hx⟩⟩
  | x :: xs, G, b, G', h, hg, hp => by
    rw [anyS] at h
    cases hx : w G x with
    | none => rw [hx] at h; cases h
    | some q =>
      obtain ⟨b1, G1⟩ := q
      rw [hx] at h
      obtain ⟨s1, s2⟩ := hw G x b1 G1 hx hg (fun g hg => hp g hg x (by simp))
      cases b1 with
      | true =>
        simp only [Option.some.injEq, Prod.mk.injEq] at h
        obtain ⟨rfl, rfl⟩ := h
        exact ⟨fun _ => s1 rfl, fun e => by cases e⟩
      | false =>
        simp only at h
        obtain ⟨g1, g2, g3, g4⟩ := s2 rfl
        obtain ⟨t1, t2⟩ := any_sem hw xs G1 b G' h g1 (fun g hg y hy => hp g ((g2 g).1 hg) y (by simp [hy]))
        refine ⟨t1, fun e => ?_⟩
        obtain ⟨k1, k2, k3, k4⟩ := t2 e
        refine ⟨k1, fun g => (k2 g).trans (g2 g), fun g h => k3 g (g3 g h), fun y hy => ?_⟩
        rcases List.mem_cons.1 hy with e | e
        · subst e
          rcases g4 with q | q
          · exact .inl q
          · exact .inr (k3 _ q)
        · exact k4 y e
theorem bound_of (r : Int → Nat) : ∀ xs : List Int, ∃ M, ∀ x ∈ xs, r x < M
  | [] => ⟨0, fun x hx => by simp at hx⟩
  | x :: xs => by
    obtain ⟨M, hM⟩ := bound_of r xs
    refine ⟨max M (r x + 1), fun y hy => ?_⟩
    rcases List.mem_cons.1 hy with e | e
    · subst e; omega
    · have := hM y e; omega
theorem step_sem {w : Marks → Int → Option (Bool × Marks)} (hw : SemOk l compat w) : SemOk l compat (visitStep l compat w) := by
  intro G c b G' h hg hp
  unfold visitStep at h
  cases ho : onceF l compat c with
  | none =>
    rw [ho] at h
    simp only [Option.some.injEq, Prod.mk.injEq] at h
    obtain ⟨rfl, rfl⟩ := h
    exact ⟨fun e => (by cases e), fun _ => ⟨hg, fun _ => Iff.rfl, fun _ h => h, .inl rfl⟩⟩
  | some to =>
    rw [ho] at h
    simp only at h
    by_cases c2 : G c = 2
    · rw [if_pos c2] at h
      simp only [Option.some.injEq, Prod.mk.injEq] at h
      obtain ⟨rfl, rfl⟩ := h
      exact ⟨fun e => (by cases e), fun _ => ⟨hg, fun _ => Iff.rfl, fun _ h => h, .inr c2⟩⟩
    · rw [if_neg c2] at h
      by_cases c1 : G c = 1
      · rw [if_pos c1] at h
        simp only [Option.some.injEq, Prod.mk.injEq] at h
        obtain ⟨rfl, rfl⟩ := h
        exact ⟨fun _ => ⟨c, hp c c1⟩, fun e => by cases e⟩
      · rw [if_neg c1] at h
        cases ha : anyS w (putG G c 1) to with
        | none => rw [ha] at h; cases h
        | some q =>
          obtain ⟨b2, G2⟩ := q
          rw [ha] at h
          simp only [Option.some.injEq, Prod.mk.injEq] at h
          obtain ⟨rfl, rfl⟩ := h
          have put_ne : ∀ y, y ≠ c → putG G c 1 y = G y := fun y hy => by simp [putG, hy]
          have put_eq : putG G c 1 c = 1 := by simp [putG]
          have hg1 : GoodM l compat (putG G c 1) := by
            obtain ⟨rank, hr⟩ := hg
            refine ⟨rank, fun y hy => ?_⟩
            have hyc : y ≠ c := fun e => by rw [e, put_eq] at hy; omega
            rw [put_ne y hyc] at hy
            obtain ⟨to', h1, h2⟩ := hr y hy
            refine ⟨to', h1, fun x hx => ?_⟩
            rcases h2 x hx with q | ⟨q1, q2⟩
            · exact .inl q
            · exact .inr ⟨by rw [put_ne x (fun e => c2 (by rw [← e]; exact q1))]; exact q1, q2⟩
          obtain ⟨s1, s2⟩ := any_sem hw to _ _ _ ha hg1 (fun g hgr x hx => by
            by_cases e : g = c
            · subst e; exact .one ⟨to, ho, hx⟩
            · rw [put_ne g e] at hgr
              exact (hp g hgr).trans (.one ⟨to, ho, hx⟩))
          refine ⟨s1, fun e => ?_⟩
          obtain ⟨⟨r2, hr2⟩, k2, k3, k4⟩ := s2 e
          have g2c : G2 c = 1 := (k2 c).2 put_eq
          have p2_ne : ∀ y, y ≠ c → putG G2 c 2 y = G2 y := fun y hy => by simp [putG, hy]
          have p2_eq : putG G2 c 2 c = 2 := by simp [putG]
          obtain ⟨M, hM⟩ := bound_of r2 to
          refine ⟨⟨fun y => if y = c then M else r2 y, fun y hy => ?_⟩, fun g => ?_, fun g h => ?_, .inr p2_eq⟩
          · by_cases e : y = c
            · subst e
              refine ⟨to, ho, fun x hx => ?_⟩
              rcases k4 x hx with q | q
              · exact .inl q
              · have hxc : x ≠ y := fun e => by rw [e, g2c] at q; omega
                refine .inr ⟨by rw [p2_ne x hxc]; exact q, ?_⟩
                show (if x = y then M else r2 x) < (if y = y then M else r2 y)
                rw [if_neg hxc, if_pos rfl]
                exact hM x hx
            · rw [p2_ne y e] at hy
              obtain ⟨to', h1, h2⟩ := hr2 y hy
              refine ⟨to', h1, fun x hx => ?_⟩
              rcases h2 x hx with q | ⟨q1, q2⟩
              · exact .inl q
              · have hxc : x ≠ c := fun e => by rw [e, g2c] at q1; omega
                exact .inr ⟨by rw [p2_ne x hxc]; exact q1, by show (if x = c then M else r2 x) < (if y = c then M else r2 y); rw [if_neg hxc, if_neg e]; exact q2⟩
          · by_cases e : g = c
            · subst e; rw [p2_eq]
              constructor
              · intro h; omega
              · intro h; exact absurd h c1
            · rw [p2_ne g e, k2 g, put_ne g e]
          · by_cases e : g = c
            · subst e; exact absurd h c2
            · rw [p2_ne g e]; exact k3 g (by rw [put_ne g e]; exact h)
theorem visit_sem : ∀ k, SemOk l compat (visitF l compat k)
  | 0 => step_sem (fun _ _ _ _ h => by cases h)
  | k + 1 => step_sem (visit_sem k)

/-! ### The visit ends -/
/-- All numbers that may be replaced. -/
def nodes (l : List Mp) : List Int := l.map Mp.from' ++ (List.range 11172).map fun (i : Nat) => 44032 + (i : Int)
theorem once_node {c : Int} (h : onceF l compat c ≠ none) : c ∈ nodes l := by
  unfold onceF at h
  unfold nodes
  rw [List.mem_append]
  split at h
  · rename_i hd
    right
    have hk : ¬ kindL c < 4 := fun q => by rw [decH, if_pos q] at hd; simp at hd
    have := kind_syl hk
    exact List.mem_map.2 ⟨(c - 44032).toNat, List.mem_range.2 (by omega), by omega⟩
  · split at h
    · exact absurd rfl h
    · rename_i m hm
      left
      have h1 := List.mem_of_find?_eq_some hm
      have h2 := List.find?_some hm
      exact List.mem_map.2 ⟨m, h1, by simpa using h2⟩
def fresh (G : Marks) (u : Int) : Bool := !(G u == 1) && !(G u == 2)
def left' (l : List Mp) (G : Marks) : Nat := (nodes l).countP (fresh G)
theorem countP_lt {α : Type} {p q : α → Bool} {c : α} : ∀ {xs : List α}, (∀ x ∈ xs, p x = true → q x = true) → c ∈ xs → p c = false → q c = true → xs.countP p < xs.countP q
  | x :: xs, h, hc, h1, h2 => by
    have mono := List.countP_mono_left (l := xs) (fun x hx => h x (by simp [hx]))
    rcases List.mem_cons.1 hc with e | e
    · subst e
      rw [List.countP_cons_of_neg (by simp [h1]), List.countP_cons_of_pos h2]
      omega
    · have ih := countP_lt (fun x hx => h x (by simp [hx])) e h1 h2
      rw [List.countP_cons, List.countP_cons]
      have := h x (by simp)
      cases hp : p x with
      | true => rw [this hp]; omega
      | false => simp only [Bool.false_eq_true, if_false]; split <;> omega
theorem left_mono {G G' : Marks} (h : ∀ u, fresh G' u = true → fresh G u = true) : left' l G' ≤ left' l G := List.countP_mono_left (fun x _ => h x)
def EndsOk (l : List Mp) (k : Nat) (w : Marks → Int → Option (Bool × Marks)) : Prop :=
  ∀ G c, left' l G ≤ k → ∃ b G', w G c = some (b, G') ∧ ∀ u, fresh G' u = true → fresh G u = true
theorem any_ends {k : Nat} {w : Marks → Int → Option (Bool × Marks)} (hw : EndsOk l k w) : ∀ (xs : List Int) (G : Marks), left' l G ≤ k → ∃ b G', anyS w G xs = some (b, G') ∧ ∀ u, fresh G' u = true → fresh G u = true
  | [], G, _ => ⟨false, G, rfl, fun _ h => h⟩
  | x :: xs, G, hk => by
    obtain ⟨b, G1, h1, h2⟩ := hw G x hk
    rw [anyS, h1]
    cases b with
    | true => exact ⟨true, G1, rfl, h2⟩
    | false =>
      obtain ⟨b, G2, h3, h4⟩ := any_ends hw xs G1 (Nat.le_trans (left_mono h2) hk)
      exact ⟨b, G2, h3, fun u h => h2 u (h4 u h)⟩
theorem visit_ends : ∀ k, EndsOk l k (visitF l compat k) := by
  have gen : ∀ (k : Nat) (w : Marks → Int → Option (Bool × Marks)), (∀ G (xs : List Int), left' l G + 1 ≤ k → ∃ b G', anyS w G xs = some (b, G') ∧ ∀ u, fresh G' u = true → fresh G u = true) → EndsOk l k (visitStep l compat w) := by
    intro k w hw G c hk
    unfold visitStep
    cases ho : onceF l compat c with
    | none => exact ⟨false, G, rfl, fun _ h => h⟩
    | some to =>
      simp only
      by_cases c2 : G c = 2
      · rw [if_pos c2]; exact ⟨false, G, rfl, fun _ h => h⟩
      · rw [if_neg c2]
        by_cases c1 : G c = 1
        · rw [if_pos c1]; exact ⟨true, G, rfl, fun _ h => h⟩
        · rw [if_neg c1]
          have m1 : ∀ v, (v = 1 ∨ v = 2) → ∀ (H : Marks) u, fresh (putG H c v) u = true → fresh H u = true := by
            intro v hv H u h
            unfold fresh putG at h
            by_cases e : u = c
            · rw [if_pos e] at h
              rcases hv with q | q <;> (subst q; simp at h)
            · rw [if_neg e] at h; exact h
          have hlt : left' l (putG G c 1) < left' l G := by
            refine countP_lt (fun x _ => m1 1 (.inl rfl) G x) (once_node (compat := compat) (by rw [ho]; simp)) ?_ ?_
            · simp [fresh, putG]
            · simp [fresh, c1, c2]
          obtain ⟨b, G', h1, h2⟩ := hw (putG G c 1) to (by omega)
          rw [h1]
          exact ⟨b, putG G' c 2, rfl, fun u h => m1 1 (.inl rfl) G u (h2 u (m1 2 (.inr rfl) G' u h))⟩
  intro k
  induction k with
  | zero => exact gen 0 _ (fun G xs h => by omega)
  | succ k ih => exact gen (k + 1) _ (fun G xs h => any_ends ih xs G (by omega))
end Go.Pv.Ct
end
section
namespace Go.Pv

/-- A value that was there at the start needs no later object. -/
theorem vrel_back {K ι st K' ι' st1} (hs : ∀ (i : Nat) (o : Ob), st[i]? = some o → st1[i]? = some o) {p : PV} {v : Value} (h : VRel K' ι' st1 p v) : ∀ {v0 : Value}, VRel K ι st p v0 → VRel K' ι' st p v := by
  induction h with
  | tree p v h => intro v0 _; exact .tree p v h
  | own k es i A c m e h hst hle heq =>
    intro v0 h0
    cases h0 with
    | tree _ _ q => cases q with | sl _ _ _ _ _ _ _ _ _ _ _ _ _ _ _ _ ht => simp at ht
    | own _ _ _ _ _ m0 e0 _ hst0 _ _ =>
      have := hs _ _ hst0
      rw [hst] at this
      injection this with this
      exact .own k es i A c m e h (by rw [this]; exact hst0) hle heq
  | agg cs vs hl h1 h ih =>
    intro v0 h0
    refine .agg cs vs hl h1 (fun i p v hp hv => ?_)
    cases h0 with
    | tree _ _ q =>
      cases q with
      | agg _ us hl2 h2 h3 =>
        have hi := (List.getElem?_eq_some_iff.1 hp).1
        have e : us[i]? = some (us[i]'(by omega)) := Array.getElem?_eq_getElem _
        exact ih i p v hp hv (.tree _ _ (h3 i p _ hp e))
    | agg _ us hl2 h2 h3 =>
      have hi := (List.getElem?_eq_some_iff.1 hp).1
      have e : us[i]? = some (us[i]'(by omega)) := Array.getElem?_eq_getElem _
      exact ih i p v hp hv (h3 i p _ hp e)
  | tup cs vs hl h ih =>
    intro v0 h0
    refine .tup cs vs hl (fun i p v hp hv => ?_)
    cases h0 with
    | tree _ _ q =>
      cases q with
      | tup _ us hl2 h3 =>
        have hi := (List.getElem?_eq_some_iff.1 hp).1
        have e : us[i]? = some (us[i]'(by omega)) := Array.getElem?_eq_getElem _
        exact ih i p v hp hv (.tree _ _ (h3 i p _ hp e))
    | tup _ us hl2 h3 =>
      have hi := (List.getElem?_eq_some_iff.1 hp).1
      have e : us[i]? = some (us[i]'(by omega)) := Array.getElem?_eq_getElem _
      exact ih i p v hp hv (h3 i p _ hp e)
  | optr id tot off a cs hst hle heq =>
    intro v0 h0
    cases h0 with
    | tree _ _ q => cases q
    | optr _ _ _ _ cs0 hst0 _ _ =>
      have := hs _ _ hst0
      rw [hst] at this
      injection this with this
      exact .optr id tot off a cs (by rw [this]; exact hst0) hle heq
  | osl id tot off len k A c cs hst hle hlc hn heq =>
    intro v0 h0
    cases h0 with
    | tree _ _ q => cases q
    | osl _ _ _ _ _ _ _ cs0 hst0 _ _ _ _ =>
      have := hs _ _ hst0
      rw [hst] at this
      injection this with this
      exact .osl id tot off len k A c cs (by rw [this]; exact hst0) hle hlc hn heq
  | map id es b hst hb =>
    intro v0 h0
    cases h0 with
    | tree _ _ q => cases q
    | map _ es0 _ hst0 _ =>
      have := hs _ _ hst0
      rw [hst] at this
      injection this with this
      exact .map id es b (by rw [this]; exact hst0) hb
  | fn f caps vs hl h ih =>
    intro v0 h0
    refine .fn f caps vs hl (fun i p v hp hv => ?_)
    cases h0 with
    | tree _ _ q => cases q with | fn => simp at hp
    | fn _ _ us hl2 h3 =>
      have hi := (List.getElem?_eq_some_iff.1 hp).1
      have e : us[i]? = some (us[i]'(by omega)) := Array.getElem?_eq_getElem _
      exact ih i p v hp hv (h3 i p _ hp e)
  | yld l b fr ps asg body nt r pd hst hb =>
    intro v0 h0
    cases h0 with
    | tree _ _ q => cases q
    | yld _ _ _ _ _ _ _ _ _ hst0 _ =>
      have := hs _ _ hst0
      rw [hst] at this
      injection this with this
      exact .yld l b _ _ _ _ _ _ _ (by rw [this]; exact hst0) hb
  | it id b m n seen hst hb =>
    intro v0 h0
    cases h0 with
    | tree _ _ q => cases q
    | it _ _ _ _ _ hst0 _ =>
      have := hs _ _ hst0
      rw [hst] at this
      injection this with this
      exact .it id b _ _ _ (by rw [this]; exact hst0) hb

theorem obrel_back {K ι st w h0 K' ι' st1 w' h1} {o : Ob} (hs : ∀ (i : Nat) (o : Ob), st[i]? = some o → st1[i]? = some o) (q0 : ObRel K ι st w h0 o) (q : ObRel K' ι' st1 w' h1 o) : ObRel K' ι' st w' h1 o := by
  cases o with
  | cells cs =>
    obtain ⟨b0, arr0, e0, _, _, _, hc0, _⟩ := q0
    obtain ⟨b, arr, e, hh, hw, hl, hc, hn⟩ := q
    exact ⟨b, arr, e, hh, hw, hl, fun i p hp => by
      obtain ⟨v0, _, r0, _⟩ := hc0 i p hp
      obtain ⟨v, a1, a2, a3⟩ := hc i p hp
      exact ⟨v, a1, vrel_back hs a2 r0, a3⟩, hn⟩
  | tok n e k => exact q
  | map es =>
    obtain ⟨b0, ents0, clock0, _, _, _, hc0, _⟩ := q0
    obtain ⟨b, ents, clock, hh, hw, hl, hc, hn⟩ := q
    exact ⟨b, ents, clock, hh, hw, hl, fun i kp vp hp => by
      obtain ⟨v0, _, r0, r1⟩ := hc0 i kp vp hp
      obtain ⟨v, a1, a2, a3⟩ := hc i kp vp hp
      exact ⟨v, a1, vrel_back hs a2 r0, vrel_back hs a3 r1⟩, hn⟩
  | iter m n seen =>
    obtain ⟨b0, mb0, _, _, h0⟩ := q0
    obtain ⟨b, mb, hh, hw, h1⟩ := q
    refine ⟨b, mb, hh, hw, ?_⟩
    cases m with
    | none => exact h1
    | some id =>
      obtain ⟨r0, es0, _, _, e0⟩ := h0
      obtain ⟨r, es, e1, e2, e3⟩ := h1
      exact ⟨r, es0, e1, e2, e0⟩
  | loop fr ps asg body nt r pd =>
    obtain ⟨b0, l0, _, _, h0⟩ := q0
    obtain ⟨b, l, hh, hw, h1⟩ := q
    refine ⟨b, l, hh, hw, fun hlt => ?_⟩
    obtain ⟨⟨_, _, _, a4, a5⟩, _⟩ := h0 hlt
    obtain ⟨⟨b1, b2, b3, b4, b5⟩, b6⟩ := h1 hlt
    refine ⟨⟨b1, b2, b3, b4, fun t v ht => ?_⟩, b6⟩
    have hi := (Array.getElem?_eq_some_iff.1 ht).1
    have e : l0.tmps[t]? = some (l0.tmps[t]'(by omega)) := Array.getElem?_eq_getElem _
    exact vrel_back hs (b5 t v ht) (a5 t _ e)

theorem Stp.forget {G K ι st w K' ι' st1 w'} (h0 : Rel G K ι st w) (h : Stp G K ι st w K' ι' st1 w') (hs : ∀ (i : Nat) (o : Ob), st[i]? = some o → st1[i]? = some o) : Stp G K ι st w K' ι' st w' := by
  have hown : ∀ b, Owned ι' st b → Owned ι' st1 b := fun b ⟨i, hi, e⟩ => ⟨i, Nat.lt_of_lt_of_le hi h.ext.len, e⟩
  refine ⟨⟨h.rel.know, h.rel.glob, fun id o e => obrel_back hs (h0.obj id o e) (h.rel.obj id o (hs id o e)), fun i j b hi hj => h.rel.apart i j b (Nat.lt_of_lt_of_le hi h.ext.len) (Nat.lt_of_lt_of_le hj h.ext.len), h.rel.gsz, fun g cs e q => h.rel.gown g cs e (hown g q)⟩,
    ⟨h.ext.know, Nat.le_refl _, fun id o e => ?_⟩, h.os, h.tape, h.output, h.size, h.block, fun b hb => h.owns b (hown b hb), h.fresh⟩
  obtain ⟨o', e1, e2⟩ := h.ext.ids id o e
  rw [hs id o e] at e1
  injection e1 with e1
  subst e1
  exact ⟨o, e, e2⟩

/-- **A contract that forgets**: the call leaves all that was there as it was; what it makes for itself may come in many ways. -/
theorem spec_forget {E : Env} (hE : EnvOk E) {f : FuncId} {N : Nat} {rs : List ResultVar} {c : Code} (hok : FnOk E f N rs c) {args : List PV} {st : Store} {v : PV} (hl : args.length ≤ N) (hv : ∀ K ι st' u, VRel K ι st' v u → TRel K v u)
    (h : BodyW E N rs c args st fun v' st1 => v' = v ∧ ∀ (i : Nat) (o : Ob), st[i]? = some o → st1[i]? = some o) : Spec E f args st v st :=
  ⟨hok.enters, fun K ι w vs hr ha => (calls_of_W hE hok hl h hr ha).mono fun e w' q => by
    obtain ⟨K', ι', st1, v1, rv, e1, ⟨rfl, hs⟩, s, r⟩ := q
    exact ⟨K', ι', rv, e1, s.forget hr hs, .tree _ _ (hv _ _ _ _ r)⟩⟩
theorem bool_tree {b : Bool} : ∀ K ι st' u, VRel K ι st' (.bool b) u → TRel K (.bool b) u := by
  intro K ι st' u h
  cases h with
  | tree _ _ q => exact q
theorem int_tree {k : IntKind} {n : Int} : ∀ K ι st' u, VRel K ι st' (.int k n) u → TRel K (.int k n) u := by
  intro K ι st' u h
  cases h with
  | tree _ _ q => exact q
end Go.Pv
end
section
namespace Go.Pv.Ct
open Go.Pv Go.Proofs
set_option maxRecDepth 20000

theorem jamo_none {l : List Mp} {compat : Bool} (hk : ∀ m ∈ l, kindL m.from' = 0) {x : Int} (hx : kindL x = 1 ∨ kindL x = 2 ∨ kindL x = 3) : onceF l compat x = none := by
  have hd : decH x = [x] := by rw [decH, if_pos (by omega)]
  unfold onceF
  rw [hd, if_neg (by simp)]
  have : l.find? (fun m => m.from' == x) = none := by
    rw [List.find?_eq_none]
    intro m hm e
    have e : m.from' = x := by simpa using e
    have := hk m hm
    rw [e] at this
    omega
  rw [this]
theorem part_jamo {c x : Int} (h : (decH c).length > 1) (hx : x ∈ decH c) : kindL x = 1 ∨ kindL x = 2 ∨ kindL x = 3 := by
  have hk : ¬ kindL c < 4 := fun q => by rw [decH, if_pos q] at h; simp at h
  obtain ⟨a1, a2, a3, a4, a5, a6, a7, a8⟩ := syl_arith (kind_syl hk)
  have L : kindL (pL c) = 1 := by unfold pL; unfold kindL; rw [if_neg (by omega), if_pos (by omega)]
  have V : kindL (pV c) = 2 := by unfold pV; unfold kindL; rw [if_neg (by omega), if_neg (by omega), if_pos (by omega)]
  rw [decH, if_neg hk] at hx
  split at hx
  · simp only [List.mem_cons, List.not_mem_nil, or_false] at hx
    rcases hx with e | e
    · rw [e]; exact .inl L
    · rw [e]; exact .inr (.inl V)
  · rename_i ht
    have T : kindL (pT c) = 3 := by
      unfold pT at ht ⊢
      by_cases q : (c - 44032).tmod 28 > 0
      · rw [if_pos q]
        unfold kindL; rw [if_neg (by omega), if_neg (by omega), if_neg (by omega), if_pos (by omega)]
      · rw [if_neg q] at ht; exact absurd rfl ht
    simp only [List.mem_cons, List.not_mem_nil, or_false] at hx
    rcases hx with e | e | e
    · rw [e]; exact .inl L
    · rw [e]; exact .inr (.inl V)
    · rw [e]; exact .inr (.inr T)
/-- Where all mapped numbers are done, there is a ranking. -/
theorem acyc_of {l : List Mp} {compat : Bool} (hk : ∀ m ∈ l, kindL m.from' = 0) {G : Marks} (hg : GoodM l compat G) (h : ∀ m ∈ l, onceF l compat m.from' = none ∨ G m.from' = 2) : Acyc l compat := by
  obtain ⟨rank, hr⟩ := hg
  refine ⟨rank, fun c to x ho hx hn => ?_⟩
  have ho' := ho
  unfold onceF at ho'
  split at ho'
  · rename_i hd
    injection ho' with e
    subst e
    exact absurd (jamo_none hk (part_jamo hd hx)) hn
  · split at ho'
    · cases ho'
    · rename_i m hm
      have hc : m.from' = c := by simpa using List.find?_some hm
      rcases h m (List.mem_of_find?_eq_some hm) with q | q
      · rw [hc, ho] at q; cases q
      · rw [hc] at q
        obtain ⟨to', h1, h2⟩ := hr c q
        rw [ho] at h1
        injection h1 with h1
        subst h1
        rcases h2 x hx with q | q
        · exact absurd q hn
        · exact q.2
noncomputable def cycB (l : List Mp) (compat : Bool) : Bool := @decide (HasCyc l compat) (Classical.propDecidable _)
theorem cyc_true {l : List Mp} {compat : Bool} (h : HasCyc l compat) : cycB l compat = true := (@decide_eq_true_iff _ (Classical.propDecidable _)).2 h
theorem cyc_false {l : List Mp} {compat : Bool} (h : Acyc l compat) : cycB l compat = false := (@decide_eq_false_iff_not _ (Classical.propDecidable _)).2 (acyc_none h)

theorem imap_len {α : Type} (f : α → Int) (g : α → PV) (l : List α) : (imap f g l).length = l.length := by simp [imap]
theorem imap_at {l : List Mp} {j : Nat} {kp vp : PV} (h : (imap Mp.from' mpV l)[j]? = some (kp, vp)) : ∃ hj : j < l.length, kp = .int .i64 l[j].from' ∧ vp = mpV l[j] := by
  unfold imap at h
  rw [List.getElem?_map] at h
  obtain ⟨m, hm, e⟩ := Option.map_eq_some_iff.1 h
  obtain ⟨hj, rfl⟩ := List.getElem?_eq_some_iff.1 hm
  injection e with e1 e2
  exact ⟨hj, e1.symm, e2.symm⟩
set_option maxHeartbeats 8000000 in
theorem cyc_spec {st : Store} {id m f : Nat} {l : List Mp} {compat : Bool} (h : DataAt st id m f l compat) (hto : ToShort l compat) (hk : ∀ m ∈ l, kindL m.from' = 0) :
    Spec EE 97 [.optr id 3 0] st (.bool (cycB l compat)) st := by
  refine spec_forget ok ok97 (by simp) bool_tree ?_
  unfold BodyW
  have e0 : code Go.Proofs.Tryz.f97 = code Go.Proofs.Tryz.f97 := rfl
  conv at e0 => rhs; simp only [code, Go.Proofs.Tryz.f97, Option.getD_some]
  rw [e0]
  clear e0
  have g0 : ∀ x : List Ob, (st ++ x)[id]? = some (.cells [.map m, .bool compat, .map f]) := fun x => by rw [List.getElem?_append_left (get_lt h.data)]; exact h.data
  have gm : ∀ x : List Ob, (st ++ x)[m]? = some (.map (imap Mp.from' mpV l)) := fun x => by rw [List.getElem?_append_left (get_lt h.maps)]; exact h.maps
  have ltm := get_lt h.maps
  have ltd := get_lt h.data
  simp only [W_region, W_seq, W_block, W_ret, OpsW_nil, OpsW_op, upd_some, upd_none, opF, evalT, evalO, ofConst, argFr, reduceCtorEq, Nat.reduceEqDiff, Nat.reduceAdd, Option.getD_some, Option.getD_none, Option.map_some, List.getElem?_cons_zero, List.getElem?_cons_succ, List.getElem?_nil, Nat.succ_ne_zero, and_self, true_and, and_true, or_true, or_false, if_true, if_false, Bool.false_eq_true, List.length_cons, List.length_nil, List.map_cons, List.map_nil, partF, TI.agg, scal, isAgg, cellsOf, Bool.or_false, Nat.reduceLeDiff, splice, List.take_zero, List.drop_zero, List.drop_succ_cons, List.take_succ_cons, List.nil_append, List.cons_append, List.set_cons_zero, List.set_cons_succ, T63, T80, T105, T108, T155, List.append_assoc, List.length_append, get_at, get_at0, set_at, set_at0, g0, gm, Array.isEmpty_empty, imap_len]
  refine W_loop (fun n fr s => ∃ (G : Marks) (seen : List Nat), fr 4 = .optr (st.length + 3) 1 0 ∧ fr 12 = .it (st.length + 4) ∧ VInv s st.length (st.length + 2) (st.length + 3) (st.length + 1) id m f l compat s G ∧ s[st.length + 4]? = some (.iter (some m) l.length seen) ∧ (∀ (i : Nat) (o : Ob), st[i]? = some o → s[i]? = some o) ∧
      GoodM l compat G ∧ (∀ g, G g ≠ 1) ∧ (∀ j ∈ seen, ∀ hj : j < l.length, onceF l compat l[j].from' = none ∨ G l[j].from' = 2) ∧ n = (List.range l.length).countP fun j => !seen.contains j) ?_ ((List.range l.length).countP fun j => !([] : List Nat).contains j) _ _
    ⟨fun _ => 0, [], by simp [upd], by simp [upd], ?_, by rw [get_at]; rfl, fun i o e => by rw [List.getElem?_append_left (get_lt e)]; exact e, ⟨fun _ => 0, fun c hc => by simp at hc⟩, by simp, by simp, rfl⟩
  case refine_2 =>
    exact ⟨by rw [get_at0]; rfl, by rw [get_at]; rfl, by rw [get_at]; rfl, ⟨g0 _, gm _⟩, by omega, ⟨[], by rw [get_at]; rfl, fun c => rfl⟩, .refl _ _⟩
  rintro n fr s ⟨G, seen, f4, f12, hI, hit, hold, hg, hn1, hsn, rfl⟩
  have hmp := hI.data.maps
  have hlt4 := get_lt hit
  simp only [W_skip, W_region, W_seq, W_cond, W_block, W_exit, OpsW_nil, OpsW_op, upd_some, Br_W1, Br_W2, opF, evalT, evalO, Nat.reduceEqDiff, Option.map_some, List.getElem?_cons_zero, true_and, exists_and_left, if_true, if_false, ne_eq, partF, TI.agg, List.drop_zero, T63, OpsW_next, NextW, f12, hit, hmp, imap_len]
  refine ⟨fun hall => ?_, fun j kp vp hj hkv => ?_⟩
  · have hac : Acyc l compat := acyc_of hk hg (fun mm hmm => by
      obtain ⟨j, hj, rfl⟩ := List.getElem_of_mem hmm
      exact hsn j (hall j hj) hj)
    simp only [upd_some, Nat.reduceEqDiff, Option.map_some, Option.some.injEq, exists_eq_left', if_true, if_false, resF, resAll, resOne]
    exact ⟨by rw [cyc_false hac], hold⟩
  · obtain ⟨hjl, rfl, rfl⟩ := imap_at hkv
    have ne4 : ∀ i, i < st.length + 4 → st.length + 4 ≠ i := fun i hi => by omega
    have hsi : ∀ o, (s.set (st.length + 4) o)[st.length + 4]? = some o := fun o => get_set_eq hlt4 o
    have hI1 : ∀ o, VInv (s.set (st.length + 4) o) st.length (st.length + 2) (st.length + 3) (st.length + 1) id m f l compat (s.set (st.length + 4) o) G := fun o =>
      ⟨by rw [get_set_ne _ (ne4 _ (by omega))]; exact hI.d, by rw [get_set_ne _ (ne4 _ (by omega))]; exact hI.s, by rw [get_set_ne _ (ne4 _ (by omega))]; exact hI.v,
        ⟨by rw [get_set_ne _ (ne4 _ (by omega))]; exact hI.data.data, by rw [get_set_ne _ (ne4 _ (by omega))]; exact hI.data.maps⟩, hI.ne,
        (by obtain ⟨S, h1, h2⟩ := hI.marks; exact ⟨S, by rw [get_set_ne _ (ne4 _ (by omega))]; exact h1, h2⟩), .refl _ _⟩
    have hold1 : ∀ o, ∀ (i : Nat) (o' : Ob), st[i]? = some o' → (s.set (st.length + 4) o)[i]? = some o' := fun o i o' e => by
      have := get_lt e
      rw [get_set_ne _ (by omega)]; exact hold i o' e
    have hgl : (seen ++ [j]).getLast? = some j := by simp
    obtain ⟨b, G1, hv, hfr⟩ := visit_ends (l := l) (compat := compat) (left' l G) G l[j].from' (Nat.le_refl _)
    obtain ⟨s1, s2⟩ := visit_sem (left' l G) G l[j].from' b G1 hv hg (fun g h => absurd h (hn1 g))
    have hIo := hI1 (.iter (some m) l.length (seen ++ [j]))
    have hv4 := hIo.v
    have hm4 := hIo.data.maps
    obtain ⟨r, st2, hs2, rfl, hI2⟩ := (visit_ok (s.set (st.length + 4) (.iter (some m) l.length (seen ++ [j]))) st.length (st.length + 2) (st.length + 3) (st.length + 1) id m f l compat hto (left' l G)).2 G l[j].from' b G1 hv _ hIo
    simp only [Nat.reduceAdd, Option.map_some, List.getElem?_cons_zero, if_true, if_false, Bool.false_eq_true, List.length_cons, List.length_nil, Nat.reduceLeDiff, List.take_zero, List.drop_zero, List.take_succ_cons, f4, hsi, hm4, imap_len, hgl, hkv, hv4]
    refine OpsW_sp hs2 (by simp only [upd_some, evalO, Nat.reduceEqDiff, if_true, if_false] <;> rfl) rfl rfl (by simp only [upd_some, evalT, evalO, ofConst, Nat.reduceEqDiff, if_true, if_false, List.zip_cons_cons, List.zip_nil_right, List.map_cons, List.map_nil, List.nil_append, List.cons_append, callArgs] <;> rfl) ?_
    have old2 : ∀ (i : Nat) (o : Ob), st[i]? = some o → st2[i]? = some o := fun i o e => hI2.keep.2 i o (by have := get_lt e; omega) (hold1 _ i o e)
    cases b with
    | true =>
      simp only [W_region, W_seq, W_ret, OpsW_nil, OpsW_op, upd_some, Br_W1, opF, evalT, evalO, ofConst, reduceCtorEq, Nat.reduceEqDiff, Option.map_some, Option.some.injEq, true_and, or_true, exists_eq_left', if_true, if_false, resF, resAll, resOne]
      exact ⟨by rw [cyc_true (s1 rfl)], old2⟩
    | false =>
      obtain ⟨t1, t2, t3, t4⟩ := s2 rfl
      simp only [W_skip, OpsW_nil, upd_some, Br_W2, Nat.reduceEqDiff, true_and, if_true, if_false, f4, f12]
      refine ⟨_, ?_, G1, ⟨hI2.d, hI2.s, hI2.v, hI2.data, hI2.ne, hI2.marks, .refl _ _⟩, seen ++ [j], hI2.keep.2 _ _ (by omega) (hsi _), old2, t1, fun g h => hn1 g ((t2 g).1 h), fun i hi hil => ?_, rfl⟩
      · refine countP_lt (c := j) (fun x _ hx => ?_) (List.mem_range.2 hjl) ?_ ?_
        · simp at hx ⊢; exact hx.1
        · simp
        · simpa using hj
      · rcases List.mem_append.1 hi with q | q
        · rcases hsn i q hil with q | q
          · exact .inl q
          · exact .inr (t3 _ q)
        · have : i = j := by simpa using q
          subst this
          exact t4
end Go.Pv.Ct
end
