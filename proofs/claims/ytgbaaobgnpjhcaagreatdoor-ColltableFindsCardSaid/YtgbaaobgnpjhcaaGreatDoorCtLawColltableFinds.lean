/-
  Collation tables (21): the table of a collation: load, find, implicit; Find, Implicit.
-/
import Derived.Test.YtgbaaobgnpjhcaaGreatDoorCtT
import Derived.Test.YtgbaaobgnpjhcaaGreatDoorCards
import Derived.Test.YtgbaaobgnpjhcaaGreatDoorTie
import Derived.SevenTiedAt
set_option linter.all false
set_option linter.unusedSimpArgs false
set_option linter.unusedVariables false
section
namespace Go.Pv.Ct
open Go.Pv
set_option maxRecDepth 20000

structure Mp where
  from' : Int
  to : List Int
  tag : List UInt8
  a : Bool
def Mp.cells (m : Mp) : List PV := [.int .i64 m.from', .sl 1 (ints m.to) (tk m.a), .str m.tag]
def mpR (l : List Mp) : List (List PV) := l.map Mp.cells
theorem mpR_length (l : List Mp) : (mpR l).length = l.length := by simp [mpR]
theorem mpR_get (l : List Mp) (i : Nat) (h : i < l.length) : (mpR l)[i]? = some [.int .i64 l[i].from', .sl 1 (ints l[i].to) (tk l[i].a), .str l[i].tag] := by simp [mpR, h, Mp.cells]
structure Rg where
  lo : Int
  hi : Int
def Rg.cells (r : Rg) : List PV := [.int .i64 r.lo, .int .i64 r.hi]
def rgR (l : List Rg) : List (List PV) := l.map Rg.cells
theorem rgR_length (l : List Rg) : (rgR l).length = l.length := by simp [rgR]
theorem rgR_get (l : List Rg) (i : Nat) (h : i < l.length) : (rgR l)[i]? = some [.int .i64 l[i].lo, .int .i64 l[i].hi] := by simp [rgR, h, Rg.cells]
/-- The data of normalization. -/
structure Nrm where
  cls : List Span
  dec : List Mp
  exc : List Rg
  a : Bool
  b : Bool
  c : Bool
def Nrm.cells (n : Nrm) : List PV := [.sl 3 (spR n.cls) (tk n.a), .sl 3 (mpR n.dec) (tk n.b), .sl 2 (rgR n.exc) (tk n.c)]
def nrm0 : Nrm := ⟨[], [], [], true, true, true⟩
theorem strip_nrm' (n : Nrm) : strip1 (.agg [.sl 3 (spR n.cls) (tk n.a), .sl 3 (mpR n.dec) (tk n.b), .sl 2 (rgR n.exc) (tk n.c)]) = some (.agg [.sl 3 (spR n.cls) (tk n.a), .sl 3 (mpR n.dec) (tk n.b), .sl 2 (rgR n.exc) (tk n.c)]) := by
  simp [strip1, share, tokRo_tk, cellOk_tk]
/-- The classes that count. -/
def clsOf (n : Nrm) (e : Int) : List Span × Bool := if e = 0 then (n.cls, n.a) else ([], true)
def entP (x : Entry) : PV := .sl 4 (elR x.els) (tk x.b)
def entKey (x : Entry) : List UInt8 := keyL x.codes
/-- A table in the store. -/
structure Tab (st : Store) (id m : Nat) (d : Coll) (cls : List Span × Bool) : Prop where
  tab : st[id]? = some (.cells [.sl 2 (entR d.ents) (tk d.a), .sl 3 (grpR d.grps) (tk d.b), .int .i64 d.base, .int .i64 d.second, .int .i64 d.third, .sl 3 (spR cls.1) (tk cls.2), .map m])
  ents : st[m]? = some (.map (kmap entKey entP d.ents))
theorem Tab.grows {st st' : Store} {id m : Nat} {d : Coll} {cls : List Span × Bool} (h : Tab st id m d cls) (g : Grows st st') : Tab st' id m d cls := ⟨g.get h.tab, g.get h.ents⟩
theorem get_at (a l : Store) (k : Nat) : (a ++ l)[a.length + k]? = l[k]? := by rw [List.getElem?_append_right (by omega)]; congr 1; omega
theorem get_at0 (a l : Store) : (a ++ l)[a.length]? = l[0]? := by have := get_at a l 0; simpa using this
theorem set_at (a l : Store) (k : Nat) (o : Ob) : (a ++ l).set (a.length + k) o = a ++ l.set k o := by
  rw [List.set_append_right _ _ (by omega)]; congr 2; omega
theorem set_at0 (a l : Store) (o : Ob) : (a ++ l).set a.length o = a ++ l.set 0 o := by have := set_at a l 0 o; simpa using this
theorem Grows.setAt {a b : Store} (h : Grows a b) {i : Nat} (hi : a.length ≤ i) (o : Ob) : Grows a (b.set i o) := by
  obtain ⟨x, rfl⟩ := h
  exact ⟨x.set (i - a.length) o, by rw [List.set_append_right _ _ hi]⟩

theorem key_ok {c : Coll} (h : collErr c = 0) (x : Entry) (hx : x ∈ c.ents) : x.codes.length ≤ 1099511627776 ∧ ∀ n ∈ x.codes, -9223372036854775808 ≤ n ∧ n ≤ 9223372036854775807 := by
  have := (valid_of h).ent x hx
  unfold entErr at this
  split at this
  · omega
  · rename_i h1
    split at this
    · omega
    · rename_i h2
      refine ⟨by omega, fun n hn => ?_⟩
      have h2' : x.codes.any (fun n => !validC n) = false := by rw [← Bool.not_eq_true]; exact h2
      have h3 := List.any_eq_false.1 h2' n hn
      have h4 := valid_range (c := n) (by simpa using h3)
      omega
theorem data_key (c : Coll) (x : Entry) (hx : x ∈ (dataC c).ents) : x.codes.length ≤ 1099511627776 ∧ ∀ n ∈ x.codes, -9223372036854775808 ≤ n ∧ n ≤ 9223372036854775807 := by
  unfold dataC at hx
  split at hx
  · rename_i h; exact key_ok h x hx
  · simp [dflt] at hx
theorem data_asc (c : Coll) : Asc (dataC c).ents := by
  unfold dataC
  split
  · rename_i h; exact (valid_of h).asc
  · exact .nil
theorem kmap_take {l : List Entry} {i : Nat} (h : i < l.length) : kmap entKey entP (l.take (i + 1)) = kmap entKey entP (l.take i) ++ [(.str (keyL l[i].codes), .sl 4 (elR l[i].els) (tk l[i].b))] := by
  unfold kmap
  rw [List.take_succ_eq_append_getElem h, List.map_append]
  rfl
theorem find_new {l : List Entry} (ha : Asc l) {i : Nat} (h : i < l.length) : findF (.str (keyL l[i].codes)) (kmap entKey entP (l.take i)) 0 = some none := by
  rw [find_kmap]
  have : (l.take i).findIdx? (fun x => entKey x == keyL l[i].codes) = none := by
    rw [List.findIdx?_eq_none_iff]
    intro x hx
    obtain ⟨j, hj, rfl⟩ := List.getElem_of_mem hx
    rw [List.getElem_take]
    have hj' : j < i := by simp at hj; omega
    have := asc_ne ha h hj'
    simp only [beq_eq_false_iff_ne, entKey]
    exact fun e => this (keyL_inj _ _ e)
  rw [this]; rfl

/-- The entries are laid down. -/
def tabC (d : Coll) (cls : List Span × Bool) (m : Nat) : List PV := [.sl 2 (entR d.ents) (tk d.a), .sl 3 (grpR d.grps) (tk d.b), .int .i64 d.base, .int .i64 d.second, .int .i64 d.third, .sl 3 (spR cls.1) (tk cls.2), .map m]
set_option maxHeartbeats 4000000 in
theorem load_loop (d : Coll) (cls : List Span × Bool) (hl : d.ents.length < 9223372036854775808) (ha : Asc d.ents) (hk : ∀ x ∈ d.ents, x.codes.length ≤ 1099511627776 ∧ ∀ n ∈ x.codes, -9223372036854775808 ≤ n ∧ n ≤ 9223372036854775807)
    (st0 : Store) (id m ic : Nat) (hid : st0.length ≤ id) (hm : st0.length ≤ m) (hne : id ≠ m) (fr : Fr) (st : Store) (hg : Grows st0 st) (f5 : fr 5 = .optr id 7 0) (f3 : fr 3 = .optr ic 5 0) (hc : st[ic]? = some (.cells d.cells))
    (sid : st[id]? = some (.cells (tabC d cls m))) (sm : st[m]? = some (.map [])) :
    W EE 42 (part [true, true, true, true] (code Go.Proofs.Tryz.f41)) fr st (EndW EE [.tmp 4] fun r st' => r = .optr id 7 0 ∧ Tab st' id m d cls ∧ Grows st0 st') := by
  have e1 : part [true, true, true, true] (code Go.Proofs.Tryz.f41) = part [true, true, true, true] (code Go.Proofs.Tryz.f41) := rfl
  conv at e1 => rhs; simp only [part, code, Go.Proofs.Tryz.f41, Option.getD_some]
  rw [e1]
  clear e1
  simp only [W_region, W_seq, W_block, W_ret, OpsW_nil, OpsW_op, upd_some, opF, evalT, evalO, ofConst, Nat.reduceEqDiff, Nat.reduceAdd, Option.map_some, List.getElem?_cons_zero, Nat.succ_ne_zero, if_true, if_false, Bool.false_eq_true, List.length_cons, List.length_nil, callB, List.zip_cons_cons, List.zip_nil_right, List.map_cons, List.map_nil, List.size_toArray, partF, TI.agg, Nat.reduceLeDiff, List.take_zero, List.drop_zero, List.take_succ_cons, T22, T25, f3, hc, Coll.cells, entR_length]
  refine W_loop (fun n fr st => ∃ (i : Nat), fr 5 = .optr id 7 0 ∧ fr 25 = .sl 2 (entR d.ents) (tk d.a) ∧ fr 26 = .int .i64 d.ents.length ∧ fr 27 = .int .i64 i ∧ i ≤ d.ents.length ∧ Grows st0 st ∧ st[id]? = some (.cells (tabC d cls m)) ∧ st[m]? = some (.map (kmap entKey entP (d.ents.take i))) ∧ n = d.ents.length - i) ?_ d.ents.length _ _
    ⟨0, by simp [upd, f5], by simp [upd], by simp [upd], by simp [upd], by omega, hg, sid, by simpa [kmap] using sm, by omega⟩
  clear f5 f3 hc sid sm hg
  rintro n fr st ⟨i, f5, f25, f26, f27, hi, hg, sid, sm, rfl⟩
  have g1 : ∀ x, (st ++ [x])[id]? = some (.cells (tabC d cls m)) := fun x => get_app sid
  have g2 : ∀ x, (st ++ [x])[m]? = some (.map (kmap entKey entP (d.ents.take i))) := fun x => get_app sm
  by_cases ci : (i : Int) < (d.ents.length : Int)
  · have ia : i < d.ents.length := by omega
    have ga := entR_get d.ents i ia
    have hw : IntKind.i64.wrap ((i : Int) + 1) = ((i + 1 : Nat) : Int) := by rw [wrap_small (by omega) (by omega)]; rfl
    have hf := find_new ha ia
    have hkt := kmap_take ia
    obtain ⟨k1, k2⟩ := hk _ (List.getElem_mem ia)
    simp only [W_skip, W_region, W_seq, W_cond, W_block, OpsW_nil, OpsW_op, upd_some, upd_none, Br_W1, opF, evalT, evalO, ofConst, binF, intF, idxN_nat, Nat.reduceEqDiff, Nat.reduceAdd, Option.map_some, List.getElem?_cons_zero, List.getElem?_cons_succ, Nat.succ_ne_zero, and_self, true_and, exists_and_left, if_true, if_false, decide_true, Bool.false_eq_true, List.length_cons, List.length_nil, partF, TI.agg, scal, isAgg, cellsOf, Bool.or_true, Nat.reduceLeDiff, splice, List.take_zero, List.drop_zero, List.drop_succ_cons, List.take_succ_cons, List.nil_append, List.cons_append, W_regionD, xrE, T22, T37, T54, T99, T101, f5, f25, f26, f27, ci, ga, get_last, set_last, g1, tabC]
    refine OpsW_pl (key_plain d.ents[i].codes _ k1 k2) rfl rfl (by simp only [upd_some, evalT, evalO, ofConst, Nat.reduceEqDiff, Option.some.injEq, if_true, if_false, List.zip_cons_cons, List.zip_nil_right, List.map_cons, List.map_nil, callArgs, strips, strip_sl, stripT_tk] <;> rfl) ?_
    have hx : ∀ x : Ob, m < (st ++ [x]).length := fun x => by have := get_lt sm; simp; omega
    simp only [OpsW_nil, OpsW_op, upd_some, upd_none, opF, evalT, evalO, Nat.reduceEqDiff, Nat.reduceAdd, Option.map_some, List.getElem?_cons_zero, List.getElem?_cons_succ, Nat.succ_ne_zero, true_and, if_true, if_false, Bool.false_eq_true, List.length_cons, List.length_nil, partF, TI.agg, Nat.reduceLeDiff, List.take_zero, List.drop_zero, List.drop_succ_cons, List.take_succ_cons, T9, T41, T54, T99, f5, f25, f26, f27, get_last, g2, hf, hw, keyK]
    rw [← hkt]
    exact ⟨d.ents.length - (i + 1), by omega, i + 1, rfl, by omega, (hg.more _).setAt hm _, by rw [get_set_ne _ hne.symm]; exact g1 _, get_set_eq (hx _) _, rfl⟩
  · have hil : d.ents.take i = d.ents := List.take_of_length_le (by omega)
    rw [hil] at sm
    simp only [W_region, W_seq, W_cond, W_block, W_exit, OpsW_nil, OpsW_op, upd_some, upd_none, Br_W2, opF, evalT, evalO, ofConst, binF, intF, reduceCtorEq, Nat.reduceEqDiff, Nat.reduceAdd, Option.map_some, Option.some.injEq, List.getElem?_cons_zero, List.getElem?_cons_succ, Nat.succ_ne_zero, true_and, or_true, or_false, exists_eq_left', exists_and_left, if_true, if_false, decide_false, Bool.false_eq_true, partF, TI.agg, scal, isAgg, cellsOf, Nat.reduceLeDiff, splice, List.take_zero, List.drop_zero, List.nil_append, W_regionD, xrE, T22, T37, T54, T99, T101, f5, f26, f27, ci, resF, resAll, resOne, EndW]
    exact ⟨⟨sid, sm⟩, hg⟩

/-- What load answers. -/
def LoadQ (st0 : Store) (d : Coll) (cls : List Span × Bool) (r : PV) (st' : Store) : Prop := ∃ id m, r = .optr id 7 0 ∧ Tab st' id m d cls ∧ Grows st0 st'
set_option maxHeartbeats 4000000 in
theorem load_spec (n : Nrm) (c : Coll) (e : Int) (hN : Plain EE 72 [.agg n.cells] (.int .i64 e)) (hf : Fits c) (st0 : Store) :
    SpecQ EE 41 [.agg n.cells, .agg c.cells] st0 (LoadQ st0 (dataC c) (clsOf n e)) := by
  refine specQ_of_W ok ok41 (by simp) (by kernel_rfl) ?_
  unfold BodyW
  have e0 : code Go.Proofs.Tryz.f41 = code Go.Proofs.Tryz.f41 := rfl
  conv at e0 => rhs; simp only [code, Go.Proofs.Tryz.f41, Option.getD_some]
  rw [e0]
  clear e0
  have hfd := data_fits hf
  have hkey := data_key c
  have hasc := data_asc c
  have fin : ∀ (fr : Fr) (st : Store), Grows st0 st → fr 5 = .optr (st0.length + 3) 7 0 → fr 3 = .optr (st0.length + 1) 5 0 → st[st0.length + 1]? = some (.cells (dataC c).cells) →
      st[st0.length + 3]? = some (.cells (tabC (dataC c) (clsOf n e) (st0.length + 2))) → st[st0.length + 2]? = some (.map []) →
      W EE 42 (part [true, true, true, true] (code Go.Proofs.Tryz.f41)) fr st (EndW EE [.tmp 4] (LoadQ st0 (dataC c) (clsOf n e))) := by
    intro fr st hg f5 f3 hc sid sm
    refine W.mono _ _ _ (fun e fr' st' q => ?_) fr st (load_loop (dataC c) (clsOf n e) hfd.ents hasc hkey st0 (st0.length + 3) (st0.length + 2) (st0.length + 1) (by omega) (by omega) (by omega) fr st hg f5 f3 hc sid sm)
    exact ⟨q.1, let ⟨v, h1, h2, h3, h4⟩ := q.2; ⟨v, h1, _, _, h2, h3, h4⟩⟩
  have tail : ∀ (fr : Fr) (st : Store), fr 2 = .optr st0.length 3 0 → fr 3 = .optr (st0.length + 1) 5 0 → st = st0 ++ [.cells n.cells, .cells (dataC c).cells] → 
      W EE 42 (part [true, true] (code Go.Proofs.Tryz.f41)) fr st (EndW EE [.tmp 4] (LoadQ st0 (dataC c) (clsOf n e))) := by
    intro fr st f2 f3 hst
    subst hst
    have e1 : part [true, true] (code Go.Proofs.Tryz.f41) = part [true, true] (code Go.Proofs.Tryz.f41) := rfl
    conv at e1 => rhs; simp only [part, code, Go.Proofs.Tryz.f41, Option.getD_some]
    rw [e1]
    clear e1
    have e1 : part [true, true, true, true] (code Go.Proofs.Tryz.f41) = part [true, true, true, true] (code Go.Proofs.Tryz.f41) := rfl
    conv at e1 => rhs; simp only [part, code, Go.Proofs.Tryz.f41, Option.getD_some]
    rw [← e1]
    clear e1
    generalize hd : dataC c = d at *
    simp only [W_region, W_seq, W_cond, OpsW_nil, OpsW_op, upd_some, opF, evalT, evalO, ofConst, Nat.reduceEqDiff, Nat.reduceAdd, Option.map_some, Option.bind_some, List.getElem?_cons_zero, List.getElem?_cons_succ, and_self, if_true, if_false, Bool.false_eq_true, Bool.not_true, List.length_cons, List.length_nil, List.map_cons, List.map_nil, partF, TI.agg, scal, isAgg, cellsOf, List.all_cons, List.all_nil, Bool.or_true, Bool.or_false, Bool.and_self, Nat.reduceLeDiff, Option.isSome_some, splice, fillF, List.take_zero, List.drop_zero, List.drop_succ_cons, List.take_succ_cons, List.nil_append, List.cons_append, T25, T30, T36, T99, T101, f2, f3, Coll.cells, Nrm.cells, List.append_assoc, List.length_append, get_at, get_at0]
    refine OpsW_pl hN rfl rfl (by simp only [upd_some, evalT, evalO, ofConst, Nat.reduceEqDiff, Option.some.injEq, if_true, if_false, List.zip_cons_cons, List.zip_nil_right, List.map_cons, List.map_nil, callArgs, strips, strip_nrm'] <;> rfl) ?_
    by_cases he : e = 0
    · have he' : (e == 0) = true := by simp [he]
      simp only [W_region, OpsW_nil, OpsW_op, upd_some, upd_none, Br_W1, opF, evalT, evalO, ofConst, binF, intF, Nat.reduceEqDiff, Nat.reduceAdd, Option.map_some, List.getElem?_cons_zero, List.getElem?_cons_succ, Nat.succ_ne_zero, and_self, if_true, if_false, Bool.false_eq_true, List.length_cons, List.length_nil, partF, TI.agg, scal, isAgg, cellsOf, Bool.or_false, Nat.reduceLeDiff, splice, List.take_zero, List.drop_zero, List.drop_succ_cons, List.take_succ_cons, List.nil_append, List.cons_append, List.set_cons_zero, List.set_cons_succ, T30, T36, T101, f2, he', get_at, get_at0, set_at]
      refine fin _ _ ?_ ?_ ?_ ?_ ?_ ?_
      · exact ⟨_, rfl⟩
      · simp [upd]
      · simp [upd, f3]
      · rw [get_at]; rfl
      · rw [get_at, clsOf, if_pos he]; rfl
      · rw [get_at]; rfl
    · have he' : (e == 0) = false := by simp [he]
      simp only [W_skip, OpsW_nil, OpsW_op, upd_some, Br_W2, opF, evalO, ofConst, binF, intF, Nat.reduceEqDiff, Option.map_some, if_true, if_false, he']
      refine fin _ _ ?_ ?_ ?_ ?_ ?_ ?_
      · exact ⟨_, rfl⟩
      · simp [upd]
      · simp [upd, f3]
      · rw [get_at]; rfl
      · rw [get_at, clsOf, if_neg he]; rfl
      · rw [get_at]; rfl
  have e1 : part [true, true] (code Go.Proofs.Tryz.f41) = part [true, true] (code Go.Proofs.Tryz.f41) := rfl
  conv at e1 => rhs; simp only [part, code, Go.Proofs.Tryz.f41, Option.getD_some]
  rw [← e1]
  clear e1
  simp only [W_region, W_seq, W_cond, OpsW_nil, OpsW_op, upd_some, opF, evalT, evalO, ofConst, argFr, Nat.reduceEqDiff, Nat.reduceAdd, Option.getD_some, Option.getD_none, Option.map_some, List.getElem?_cons_zero, List.getElem?_cons_succ, List.getElem?_nil, and_self, if_true, if_false, List.length_cons, List.length_nil, partF, TI.agg, scal, isAgg, cellsOf, Bool.or_true, Nat.reduceLeDiff, List.take_zero, List.drop_zero, List.take_succ_cons, List.nil_append, List.cons_append, T25, T36, Coll.cells, Nrm.cells, List.append_assoc, List.length_append, get_at]
  refine OpsW_pl (check_plain c hf) rfl rfl (by simp only [upd_some, evalT, evalO, ofConst, argFr, Nat.reduceEqDiff, Option.getD_none, Option.some.injEq, List.getElem?_cons_succ, List.getElem?_nil, if_true, if_false, List.zip_cons_cons, List.zip_nil_right, List.map_cons, List.map_nil, callArgs, strips, strip_coll'] <;> rfl) ?_
  by_cases h : collErr c = 0
  · have h' : (collErr c != 0) = false := by simp [h]
    simp only [W_skip, OpsW_nil, OpsW_op, upd_some, Br_W2, opF, evalO, ofConst, argFr, binF, intF, Nat.reduceEqDiff, Option.getD_none, Option.map_some, List.getElem?_cons_succ, List.getElem?_nil, if_true, if_false, h']
    exact tail _ _ (by simp [upd]) (by simp [upd]) (by rw [dataC, if_pos h]; simp [Coll.cells, Nrm.cells])
  · have h' : (collErr c != 0) = true := by simp [h]
    simp only [W_region, OpsW_nil, OpsW_op, upd_some, upd_none, Br_W1, opF, evalT, evalO, ofConst, argFr, binF, intF, Nat.reduceEqDiff, Nat.reduceAdd, Option.getD_none, Option.map_some, Option.bind_some, List.getElem?_cons_zero, List.getElem?_cons_succ, List.getElem?_nil, and_self, if_true, if_false, Bool.false_eq_true, Bool.not_true, List.length_cons, List.length_nil, List.map_cons, List.map_nil, scal, isAgg, cellsOf, List.all_cons, List.all_nil, Bool.or_true, Bool.or_false, Bool.and_self, Nat.reduceLeDiff, Option.isSome_some, splice, fillF, List.take_zero, List.drop_zero, List.drop_succ_cons, List.take_succ_cons, List.nil_append, List.cons_append, List.set_cons_zero, List.set_cons_succ, T3, T22, T23, T25, h', get_at, set_at]
    exact tail _ _ (by simp [upd]) (by simp [upd]) (by rw [dataC, if_neg h]; simp [Coll.cells, Nrm.cells, dflt, entR, grpR, tk])
end Go.Pv.Ct
end
section
namespace Go.Pv.Ct
open Go.Pv
set_option maxRecDepth 20000

theorem key_beq (a b : List Int) : (keyL a == keyL b) = (a == b) := by
  by_cases h : a = b
  · subst h; simp
  · have h1 : (a == b) = false := by simp [h]
    have h2 : (keyL a == keyL b) = false := by simp; exact fun e => h (keyL_inj _ _ e)
    rw [h1, h2]
def fndP (d : Coll) (codes : List Int) : PV := match fndC d codes with | some x => entP x | none => .sl 4 [] .full
theorem fndP_sl (d : Coll) (codes : List Int) : ∃ b, fndP d codes = .sl 4 (elR (fndR d codes).1) (tk b) := by
  unfold fndP fndR
  cases fndC d codes with
  | none => exact ⟨true, rfl⟩
  | some x => exact ⟨x.b, rfl⟩
theorem fndR_snd (d : Coll) (codes : List Int) : (fndR d codes).2 = (fndC d codes).isSome := by
  unfold fndR
  cases fndC d codes <;> rfl
theorem find_tab (d : Coll) (codes : List Int) : match fndC d codes with
    | none => findF (.str (keyL codes)) (kmap entKey entP d.ents) 0 = some none
    | some x => ∃ j, findF (.str (keyL codes)) (kmap entKey entP d.ents) 0 = some (some (j, entP x)) := by
  have hp : (fun x : Entry => entKey x == keyL codes) = fun x => x.codes == codes := by funext x; exact key_beq _ _
  rw [find_kmap, hp]
  cases hx : d.ents.findIdx? (fun x => x.codes == codes) with
  | none =>
    have : fndC d codes = none := by
      unfold fndC
      rw [List.find?_eq_none]
      intro x hx'
      have := List.findIdx?_eq_none_iff.1 hx x hx'
      simpa using this
    rw [this]; rfl
  | some j =>
    obtain ⟨hj, h1, h2⟩ := List.findIdx?_eq_some_iff_getElem.1 hx
    have : fndC d codes = some d.ents[j] := by
      unfold fndC
      rw [List.find?_eq_some_iff_getElem]
      exact ⟨h1, j, hj, rfl, fun i hi => by simpa using h2 i hi⟩
    rw [this]
    exact ⟨0 + j, by rw [Option.map_some, List.getElem?_eq_getElem hj]; rfl⟩

/-- Codes that have a key. -/
def Keyed (codes : List Int) : Prop := codes.length ≤ 1099511627776 ∧ ∀ n ∈ codes, -9223372036854775808 ≤ n ∧ n ≤ 9223372036854775807
set_option maxHeartbeats 4000000 in
theorem tfind_spec {st : Store} {id m : Nat} {d : Coll} {cls : List Span × Bool} (h : Tab st id m d cls) (codes : List Int) (t : Tok) (hk : Keyed codes) :
    SpecQ EE 48 [.optr id 7 0, .sl 1 (ints codes) t] st fun r st' => r = .tup [fndP d codes, .bool (fndR d codes).2] ∧ st' = st := by
  refine specQ_of_W ok ok48 (by simp) (by kernel_rfl) ?_
  unfold BodyW
  have e0 : code Go.Proofs.Tryz.f48 = code Go.Proofs.Tryz.f48 := rfl
  conv at e0 => rhs; simp only [code, Go.Proofs.Tryz.f48, Option.getD_some]
  rw [e0]
  clear e0
  have h1 := h.tab
  have h2 := h.ents
  simp only [W_region, W_seq, W_ret, OpsW_nil, OpsW_op, upd_some, opF, evalT, evalO, ofConst, argFr, reduceCtorEq, Nat.reduceEqDiff, Nat.reduceAdd, Option.getD_some, Option.map_some, List.getElem?_cons_zero, List.getElem?_cons_succ, Nat.succ_ne_zero, true_and, or_true, if_true, if_false, Bool.false_eq_true, List.length_cons, List.length_nil, partF, TI.agg, Nat.reduceLeDiff, List.take_zero, List.drop_zero, List.drop_succ_cons, List.take_succ_cons, W_regionD, xrE, T41, T68, T99, T101, h1]
  refine OpsW_pl (key_plain codes _ hk.1 hk.2) rfl rfl (by simp only [upd_some, evalT, evalO, ofConst, argFr, Nat.reduceEqDiff, Option.getD_none, Option.some.injEq, List.getElem?_cons_succ, List.getElem?_nil, if_true, if_false, List.zip_cons_cons, List.zip_nil_right, List.map_cons, List.map_nil, callArgs, strips, strip_sl] <;> rfl) ?_
  have hf := find_tab d codes
  unfold fndP fndR
  cases hx : fndC d codes with
  | none =>
    rw [hx] at hf
    simp only at hf
    simp only [OpsW_nil, OpsW_op, upd_some, opF, evalT, evalO, argFr, Nat.reduceEqDiff, Option.getD_none, Option.map_some, Option.some.injEq, List.getElem?_cons_zero, List.getElem?_cons_succ, List.getElem?_nil, and_self, exists_eq_left', if_true, if_false, Bool.false_eq_true, TI.agg, List.headD_cons, T9, T41, T99, h2, hf, keyK, mapEs, valOf, resF, resAll, resOne]
  | some x =>
    rw [hx] at hf
    obtain ⟨j, hf⟩ := hf
    simp only [OpsW_nil, OpsW_op, upd_some, opF, evalT, evalO, argFr, Nat.reduceEqDiff, Option.getD_none, Option.map_some, Option.some.injEq, List.getElem?_cons_zero, List.getElem?_cons_succ, List.getElem?_nil, and_self, exists_eq_left', if_true, if_false, T9, T41, T99, h2, hf, keyK, mapEs, resF, resAll, resOne]
set_option maxHeartbeats 4000000 in
theorem timpl_spec {st : Store} {id m : Nat} {d : Coll} {cls : List Span × Bool} (h : Tab st id m d cls) (z : Int) (hb : 1 ≤ d.base ∧ d.base ≤ 65502) :
    SpecQ EE 49 [.optr id 7 0, .int .i64 z] st fun r st' => r = implP (implL d z) ∧ st' = st := by
  refine specQ_of_W ok ok49 (by simp) (by kernel_rfl) ?_
  unfold BodyW
  have e0 : code Go.Proofs.Tryz.f49 = code Go.Proofs.Tryz.f49 := rfl
  conv at e0 => rhs; simp only [code, Go.Proofs.Tryz.f49, Option.getD_some]
  rw [e0]
  clear e0
  have h1 := h.tab
  simp only [W_region, W_seq, W_cond, W_ret, OpsW_nil, OpsW_op, upd_some, opF, evalT, evalO, ofConst, argFr, binF, intF, reduceCtorEq, Nat.reduceEqDiff, Nat.reduceAdd, Option.getD_some, Option.map_some, Option.bind_some, List.getElem?_cons_zero, List.getElem?_cons_succ, Nat.succ_ne_zero, true_and, and_true, or_true, if_true, if_false, Bool.false_eq_true, Bool.not_true, List.length_cons, List.length_nil, List.map_cons, List.map_nil, partF, TI.agg, scal, isAgg, cellsOf, List.all_cons, List.all_nil, Bool.and_true, Bool.and_self, Nat.reduceLeDiff, Nat.zero_lt_succ, range2, Option.isSome_some, splice, fillF, List.take_zero, List.drop_zero, List.nil_append, W_regionD, xrE, T3, T4, T25, T41, T68, T101]
  refine OpsW_pl (valid_plain z) rfl rfl (by simp only [upd_some, evalT, evalO, ofConst, argFr, Nat.reduceEqDiff, Option.getD_none, List.getElem?_cons_succ, List.getElem?_nil, if_true, if_false, List.zip_cons_cons, List.zip_nil_right, List.map_cons, List.map_nil, callArgs, strips, strip_int] <;> rfl) ?_
  rcases Bool.eq_false_or_eq_true (validC z) with e | e
  · obtain ⟨a1, a2, a3⟩ := impl_arith e hb
    simp only [W_skip, OpsW_nil, OpsW_op, upd_some, Br_W2, opF, evalO, argFr, unF, reduceCtorEq, Nat.reduceEqDiff, Nat.reduceAdd, Option.getD_some, Option.getD_none, Option.map_some, Option.some.injEq, List.getElem?_cons_zero, List.getElem?_cons_succ, List.getElem?_nil, and_self, and_true, exists_eq_left', if_true, if_false, Bool.false_eq_true, beq_self_eq_true, Bool.not_true, List.length_cons, List.length_nil, List.map_cons, List.map_nil, tokRo, cellOk, List.all_cons, List.all_nil, Bool.or_true, Bool.or_false, Bool.and_self, Nat.reduceLeDiff, List.take_zero, List.drop_zero, List.drop_succ_cons, List.take_succ_cons, List.nil_append, List.cons_append, Int.reduceEq, e, h1, a1, a2, a3, resF, resAll, resOne]
    rw [implL, if_pos e]; rfl
  · simp only [W_region, W_seq, W_ret, OpsW_nil, OpsW_op, upd_some, Br_W1, opF, evalT, evalO, argFr, unF, reduceCtorEq, Nat.reduceEqDiff, Option.getD_none, Option.map_some, Option.some.injEq, List.getElem?_cons_succ, List.getElem?_nil, true_and, and_true, or_true, exists_eq_left', if_true, if_false, Bool.not_false, T41, T68, e, resF, resAll, resOne]
    rw [implL, e]; rfl

/-- No data at all is valid. -/
theorem norm0_plain : Plain EE 72 [.agg nrm0.cells] (.int .i64 0) := plain_run ok tblOk ctOk 3000 (by kernel_rfl)
set_option maxHeartbeats 4000000 in
theorem Find_plain (c : Coll) (codes : List Int) (t : Tok) (hf : Fits c) (he : ElsOk c) (hk : Keyed codes) :
    Plain EE 21 [.agg c.cells, .sl 1 (ints codes) t] (.tup [elP (fndR (dataC c) codes).1, .bool (fndR (dataC c) codes).2]) := by
  refine plain_of_W ok ok21 (by simp) ?_
  unfold BodyW
  have e0 : code Go.Proofs.Tryz.f21 = code Go.Proofs.Tryz.f21 := rfl
  conv at e0 => rhs; simp only [code, Go.Proofs.Tryz.f21, Option.getD_some]
  rw [e0]
  clear e0
  simp only [W_region, W_seq, W_ret, OpsW_nil, OpsW_op, upd_some, opF, evalT, evalO, ofConst, argFr, reduceCtorEq, Nat.reduceEqDiff, Nat.reduceAdd, Option.getD_some, Option.getD_none, Option.map_some, List.getElem?_cons_zero, List.getElem?_cons_succ, List.getElem?_nil, and_self, true_and, or_true, if_true, if_false, Bool.false_eq_true, Bool.not_true, List.length_cons, List.length_nil, List.map_nil, partF, TI.agg, scal, isAgg, cellsOf, List.all_cons, List.all_nil, Bool.or_true, Bool.and_self, Nat.reduceLeDiff, Option.isSome_some, fillF, List.take_zero, List.drop_zero, List.take_succ_cons, List.nil_append, T25, T30, T31, T34, T36, T41, T68, Coll.cells]
  obtain ⟨r, st1, hs, id, m, rfl, htab, hg⟩ := load_spec nrm0 c 0 norm0_plain hf [.cells c.cells]
  refine OpsW_sp hs (by simp only [evalO] <;> rfl) rfl rfl (by simp only [upd_some, evalT, evalO, ofConst, argFr, Nat.reduceEqDiff, Option.getD_none, List.getElem?_cons_succ, List.getElem?_nil, if_true, if_false, List.zip_cons_cons, List.zip_nil_right, List.map_cons, List.map_nil, List.nil_append, List.cons_append, callArgs] <;> rfl) ?_
  simp only [OpsW_op, upd_some, opF, evalT, evalO, argFr, Nat.reduceEqDiff, Option.getD_some, List.getElem?_cons_zero, List.getElem?_cons_succ, if_false]
  obtain ⟨r, st2, hs2, rfl, rfl⟩ := tfind_spec htab codes t hk
  refine OpsW_sp hs2 (by simp only [evalO] <;> rfl) rfl rfl (by simp only [upd_some, evalT, evalO, ofConst, argFr, Nat.reduceEqDiff, Option.getD_none, List.getElem?_cons_succ, List.getElem?_nil, if_true, if_false, List.zip_cons_cons, List.zip_nil_right, List.map_cons, List.map_nil, List.nil_append, List.cons_append, callArgs] <;> rfl) ?_
  obtain ⟨b, hb⟩ := fndP_sl (dataC c) codes
  rw [hb]
  simp only [OpsW_nil, OpsW_op, upd_some, opF, evalT, evalO, argFr, Nat.reduceEqDiff, Option.getD_none, Option.map_some, List.getElem?_cons_zero, List.getElem?_cons_succ, List.getElem?_nil, if_true, if_false]
  refine OpsW_pl (clone_plain (fndR (dataC c) codes).1 (tk b) (fnd_len (data_els he) codes)) rfl rfl (by simp only [upd_some, evalT, evalO, ofConst, argFr, Nat.reduceEqDiff, Option.getD_none, List.getElem?_cons_succ, List.getElem?_nil, if_true, if_false, List.zip_cons_cons, List.zip_nil_right, List.map_cons, List.map_nil, callArgs, strips, strip_sl, stripT_tk] <;> rfl) ?_
  simp only [OpsW_nil, OpsW_op, upd_some, opF, evalT, evalO, argFr, Nat.reduceEqDiff, Option.getD_none, Option.map_some, Option.some.injEq, List.getElem?_cons_succ, List.getElem?_nil, exists_eq_left', if_true, if_false, resF, resAll, resOne]
  exact ⟨2, by rw [pub_tupc]; simp only [allSome, elP, pub_sl, pub_bool, stripT_tk] <;> rfl⟩
theorem Implicit_plain (c : Coll) (z : Int) (hf : Fits c) : Plain EE 23 [.agg c.cells, .int .i64 z] (implP (implL (dataC c) z)) := by
  refine plain_of_W ok ok23 (by simp) ?_
  unfold BodyW
  have e0 : code Go.Proofs.Tryz.f23 = code Go.Proofs.Tryz.f23 := rfl
  conv at e0 => rhs; simp only [code, Go.Proofs.Tryz.f23, Option.getD_some]
  rw [e0]
  clear e0
  simp only [W_region, W_seq, W_ret, OpsW_nil, OpsW_op, upd_some, opF, evalT, evalO, ofConst, argFr, reduceCtorEq, Nat.reduceEqDiff, Nat.reduceAdd, Option.getD_some, Option.getD_none, Option.map_some, List.getElem?_cons_zero, List.getElem?_cons_succ, List.getElem?_nil, and_self, true_and, or_true, if_true, if_false, Bool.false_eq_true, Bool.not_true, List.length_cons, List.length_nil, List.map_nil, partF, TI.agg, scal, isAgg, cellsOf, List.all_cons, List.all_nil, Bool.or_true, Bool.and_self, Nat.reduceLeDiff, Option.isSome_some, fillF, List.take_zero, List.drop_zero, List.take_succ_cons, List.nil_append, T25, T30, T31, T34, T36, T41, T68, Coll.cells]
  obtain ⟨r, st1, hs, id, m, rfl, htab, hg⟩ := load_spec nrm0 c 0 norm0_plain hf [.cells c.cells]
  refine OpsW_sp hs (by simp only [evalO] <;> rfl) rfl rfl (by simp only [upd_some, evalT, evalO, ofConst, argFr, Nat.reduceEqDiff, Option.getD_none, List.getElem?_cons_succ, List.getElem?_nil, if_true, if_false, List.zip_cons_cons, List.zip_nil_right, List.map_cons, List.map_nil, List.nil_append, List.cons_append, callArgs] <;> rfl) ?_
  simp only [OpsW_op, upd_some, opF, evalT, evalO, argFr, Nat.reduceEqDiff, Option.getD_some, List.getElem?_cons_zero, List.getElem?_cons_succ, if_false]
  obtain ⟨r, st2, hs2, rfl, rfl⟩ := timpl_spec htab z (data_num c)
  refine OpsW_sp hs2 (by simp only [evalO] <;> rfl) rfl rfl (by simp only [upd_some, evalT, evalO, ofConst, argFr, Nat.reduceEqDiff, Option.getD_none, List.getElem?_cons_succ, List.getElem?_nil, if_true, if_false, List.zip_cons_cons, List.zip_nil_right, List.map_cons, List.map_nil, List.nil_append, List.cons_append, callArgs] <;> rfl) ?_
  simp only [OpsW_nil, OpsW_op, upd_some, opF, evalT, evalO, argFr, Nat.reduceEqDiff, Option.getD_none, Option.map_some, Option.some.injEq, List.getElem?_cons_succ, List.getElem?_nil, exists_eq_left', if_true, if_false, resF, resAll, resOne]
  exact ⟨1, by rw [implP, pub_sl]; rfl⟩

theorem small_els {c : Coll} (h : smallC c = true) : ElsOk c := by
  intro x hx
  unfold smallC at h
  simp only [Bool.and_eq_true] at h
  have := List.all_eq_true.1 h.2 x hx
  simp only [Bool.and_eq_true, decide_eq_true_eq] at this
  have : LIM = 4294967296 := rfl
  omega
set_option maxHeartbeats 8000000 in
theorem finds_plain (c : Coll) (codes : List Int) (t : Tok) (z : Int) (hf : Fits c) (hc : ∀ n ∈ codes, -9223372036854775808 ≤ n ∧ n ≤ 9223372036854775807) :
    Plain EE 5 [.agg c.cells, .sl 1 (ints codes) t, .int .i64 z] (.bool true) := by
  refine plain_of_W ok ok5 (by simp) ?_
  unfold BodyW
  have e0 : code Go.Proofs.Tryz.f5 = code Go.Proofs.Tryz.f5 := rfl
  conv at e0 => rhs; simp only [code, Go.Proofs.Tryz.f5, Option.getD_some]
  rw [e0]
  clear e0
  simp only [W_region, W_seq, W_cond, W_ret, OpsW_nil, OpsW_op, upd_some, opF, evalT, evalO, ofConst, argFr, reduceCtorEq, Nat.reduceEqDiff, Nat.reduceAdd, Option.getD_some, Option.getD_none, Option.map_some, List.getElem?_cons_zero, List.getElem?_cons_succ, List.getElem?_nil, and_self, true_and, or_true, if_true, if_false, List.length_cons, List.length_nil, partF, TI.agg, scal, isAgg, cellsOf, Bool.or_true, Nat.reduceLeDiff, List.take_zero, List.drop_zero, List.take_succ_cons, List.nil_append, W_regionD, xrE, T25, Coll.cells]
  refine OpsW_pl (small_plain c hf.ents) rfl rfl (by simp only [upd_some, evalT, evalO, ofConst, argFr, Nat.reduceEqDiff, Option.getD_none, Option.some.injEq, List.getElem?_cons_succ, List.getElem?_nil, if_true, if_false, List.zip_cons_cons, List.zip_nil_right, List.map_cons, List.map_nil, callArgs, strips, strip_coll'] <;> rfl) ?_
  rcases Bool.eq_false_or_eq_true (smallC c) with b | b
  case inr =>
    simp only [W_region, W_seq, W_ret, OpsW_nil, OpsW_op, OpsW_guard, upd_some, Br_W1, Br_O2, opF, evalT, evalO, ofConst, argFr, unF, reduceCtorEq, Nat.reduceEqDiff, Option.getD_none, Option.map_some, Option.bind_some, List.getElem?_toArray, List.getElem?_cons_zero, List.getElem?_cons_succ, List.getElem?_nil, true_and, or_true, if_true, if_false, Bool.true_beq, Bool.not_false, b]
    refine OpsW_pl alive_plain rfl rfl rfl ?_
    simp only [OpsW_nil, OpsW_op, upd_some, opF, evalT, evalO, argFr, Nat.reduceEqDiff, Option.getD_none, Option.map_some, Option.some.injEq, List.getElem?_cons_succ, List.getElem?_nil, exists_eq_left', if_true, if_false, resF, resAll, resOne]
    exact ⟨1, by rw [pub_bool]⟩
  by_cases c1 : (codes.length : Int) > 12
  · simp only [W_region, W_seq, W_ret, OpsW_nil, OpsW_op, OpsW_guard, upd_some, Br_W1, Br_O1, opF, evalT, evalO, ofConst, argFr, binF, intF, unF, reduceCtorEq, Nat.reduceEqDiff, Nat.reduceAdd, Option.getD_some, Option.getD_none, Option.map_some, Option.bind_some, List.getElem?_toArray, List.getElem?_cons_zero, List.getElem?_cons_succ, List.getElem?_nil, true_and, or_true, if_true, if_false, decide_true, Bool.false_eq_true, beq_self_eq_true, Bool.not_true, List.length_cons, List.length_nil, callB, List.zip_cons_cons, List.zip_nil_right, List.map_cons, List.map_nil, List.size_toArray, T37, b, ints_length, c1]
    refine OpsW_pl alive_plain rfl rfl rfl ?_
    simp only [OpsW_nil, OpsW_op, upd_some, opF, evalT, evalO, argFr, Nat.reduceEqDiff, Option.getD_none, Option.map_some, Option.some.injEq, List.getElem?_cons_succ, List.getElem?_nil, exists_eq_left', if_true, if_false, resF, resAll, resOne]
    exact ⟨1, by rw [pub_bool]⟩
  have he := small_els b
  have hk : Keyed codes := ⟨by omega, hc⟩
  have hlen := fnd_len (data_els he) codes
  have hL : LIM = 4294967296 := rfl
  simp only [W_skip, OpsW_nil, OpsW_op, OpsW_guard, upd_some, Br_W2, Br_O1, opF, evalT, evalO, ofConst, argFr, binF, intF, unF, Nat.reduceEqDiff, Nat.reduceAdd, Option.getD_some, Option.getD_none, Option.map_some, Option.bind_some, List.getElem?_toArray, List.getElem?_cons_zero, List.getElem?_cons_succ, List.getElem?_nil, if_true, if_false, decide_false, Bool.false_eq_true, beq_self_eq_true, Bool.not_true, List.length_cons, List.length_nil, callB, List.zip_cons_cons, List.zip_nil_right, List.map_cons, List.map_nil, List.size_toArray, Nat.reduceLeDiff, List.take_zero, List.drop_zero, List.take_succ_cons, T37, b, ints_length, c1]
  refine OpsW_pl (Find_plain c codes _ hf he hk) rfl rfl (by simp only [upd_some, evalT, evalO, ofConst, argFr, Nat.reduceEqDiff, Option.getD_none, Option.some.injEq, List.getElem?_cons_succ, List.getElem?_nil, if_true, if_false, List.zip_cons_cons, List.zip_nil_right, List.map_cons, List.map_nil, callArgs, strips, strip_sl, strip_coll'] <;> rfl) ?_
  simp only [OpsW_nil, OpsW_op, upd_some, opF, evalT, evalO, argFr, Nat.reduceEqDiff, Nat.reduceAdd, Option.getD_some, Option.getD_none, Option.map_some, List.getElem?_cons_zero, List.getElem?_cons_succ, List.getElem?_nil, if_true, if_false, List.length_cons, List.length_nil, Nat.reduceLeDiff, List.take_zero, List.drop_zero, List.take_succ_cons]
  refine OpsW_pl (refFind_plain c codes _ hf he) rfl rfl (by simp only [upd_some, evalT, evalO, ofConst, argFr, Nat.reduceEqDiff, Option.getD_none, Option.some.injEq, List.getElem?_cons_succ, List.getElem?_nil, if_true, if_false, List.zip_cons_cons, List.zip_nil_right, List.map_cons, List.map_nil, callArgs, strips, strip_sl, strip_coll'] <;> rfl) ?_
  simp only [OpsW_nil, OpsW_op, upd_some, opF, evalT, evalO, argFr, Nat.reduceEqDiff, Option.getD_none, Option.map_some, List.getElem?_cons_zero, List.getElem?_cons_succ, List.getElem?_nil, if_true, if_false, elP]
  refine OpsW_pl (same_plain (fndR (dataC c) codes).1 (fndR (dataC c) codes).1 _ _ (by omega)) rfl rfl (by simp only [upd_some, evalT, evalO, ofConst, argFr, Nat.reduceEqDiff, Option.getD_none, Option.some.injEq, List.getElem?_cons_succ, List.getElem?_nil, if_true, if_false, List.zip_cons_cons, List.zip_nil_right, List.map_cons, List.map_nil, callArgs, strips, strip_sl, stripT_tk] <;> rfl) ?_
  simp only [OpsW_op, OpsW_guard, upd_some, Br_O1, opF, evalT, evalO, ofConst, argFr, binF, Nat.reduceEqDiff, Nat.reduceAdd, Option.getD_some, Option.getD_none, Option.map_some, Option.bind_some, List.getElem?_toArray, List.getElem?_cons_zero, List.getElem?_cons_succ, List.getElem?_nil, if_true, if_false, beq_self_eq_true, List.length_cons, List.length_nil, partF, TI.agg, Nat.reduceLeDiff, List.take_zero, List.drop_zero, List.take_succ_cons, T4, T25, sameB_refl, eqF]
  refine OpsW_pl (Implicit_plain c z hf) rfl rfl (by simp only [upd_some, evalT, evalO, ofConst, argFr, Nat.reduceEqDiff, Option.getD_none, Option.some.injEq, List.getElem?_cons_succ, List.getElem?_nil, if_true, if_false, List.zip_cons_cons, List.zip_nil_right, List.map_cons, List.map_nil, callArgs, strips, strip_int, strip_coll'] <;> rfl) ?_
  simp only [OpsW_op, OpsW_guard, upd_some, Br_O1, opF, evalT, evalO, argFr, Nat.reduceEqDiff, Nat.reduceAdd, Option.getD_some, Option.getD_none, Option.map_some, Option.bind_some, List.getElem?_toArray, List.getElem?_cons_zero, List.getElem?_cons_succ, List.getElem?_nil, if_true, if_false, beq_self_eq_true, List.length_cons, List.length_nil, partF, TI.agg, Nat.reduceLeDiff, List.take_zero, List.drop_zero, List.take_succ_cons, T25]
  refine OpsW_pl (refImplicit_plain c z hf) rfl rfl (by simp only [upd_some, evalT, evalO, ofConst, argFr, Nat.reduceEqDiff, Option.getD_none, Option.some.injEq, List.getElem?_cons_succ, List.getElem?_nil, if_true, if_false, List.zip_cons_cons, List.zip_nil_right, List.map_cons, List.map_nil, callArgs, strips, strip_int, strip_coll'] <;> rfl) ?_
  simp only [OpsW_guard, upd_some, Br_O1, argFr, Nat.reduceEqDiff, Option.getD_none, Option.bind_some, List.getElem?_toArray, List.getElem?_cons_zero, List.getElem?_cons_succ, List.getElem?_nil, if_true, if_false, beq_self_eq_true, implP]
  refine OpsW_pl (same_plain (implL (dataC c) z) (implL (dataC c) z) _ _ (by unfold implL; split <;> simp)) rfl rfl (by simp only [upd_some, evalT, evalO, ofConst, argFr, Nat.reduceEqDiff, Option.getD_none, Option.some.injEq, List.getElem?_cons_succ, List.getElem?_nil, if_true, if_false, List.zip_cons_cons, List.zip_nil_right, List.map_cons, List.map_nil, callArgs, strips, strip_sl, stripT] <;> rfl) ?_
  simp only [OpsW_op, OpsW_guard, upd_some, Br_O1, opF, evalT, evalO, ofConst, argFr, Nat.reduceEqDiff, Option.getD_none, Option.bind_some, List.getElem?_toArray, List.getElem?_cons_zero, List.getElem?_cons_succ, List.getElem?_nil, if_true, if_false, beq_self_eq_true, sameB_refl]
  refine OpsW_pl alive_plain rfl rfl rfl ?_
  simp only [OpsW_nil, OpsW_op, upd_some, opF, evalT, evalO, ofConst, argFr, Nat.reduceEqDiff, Option.getD_none, Option.map_some, Option.some.injEq, List.getElem?_cons_succ, List.getElem?_nil, exists_eq_left', if_true, if_false, resF, resAll, resOne]
  exact ⟨1, by rw [pub_bool]⟩
end Go.Pv.Ct
end
section
namespace Go.Proofs.YtgbaaobgnpjhcaaGreatDoor.colltableFinds
open Go Go.ChangeShapes Go.WideShapes Go.ChangeAt Go.RowKit Go.Pv Go.Pv.Ct
set_option maxRecDepth 100000
theorem lifted (os : Os) (started : os.Started) (H : Type) (enc : TypeId × Value → H) :
    ReturnsInHanded {} Tryz.checked os 5 .any (fun w args => (Rows.colltableFindsSpec.pre enc Tryz.prog Tryz.f5 Rows.colltableFindsRow.domain false w args ∧ laidMet Tryz.prog Rows.colltableFindsRow.laid w) ∧ sizedMet enc Tryz.prog Tryz.f5 (OpenSpec.ofChange Rows.colltableFindsSpec) false w args)
      (Rows.colltableFindsSpec.post enc Tryz.prog Tryz.f5 false true false false) := by
  refine returnsInHanded_of_change_and (C := Tryz.checked) (X := fun w _ => laidMet Tryz.prog Rows.colltableFindsRow.laid w) (fun _ _ _ hh h => h.of_heap hh) own started (by kernel_rfl) Tryz.func5
    (ChangeSpec.witness_at (enc := enc) (C := Tryz.checked) (os := os) (X := fun w _ => laidMet Tryz.prog Rows.colltableFindsRow.laid w) false (laidWorld os) #[.agg #[.slice none 0 0, .slice none 0 0, .int .i64 0, .int .i64 0, .int .i64 0], .slice none 0 0, .int .i64 0] 8 rfl (by kernel_rfl) (by kernel_rfl) (by kernel_rfl) (by kernel_rfl) (by kernel_rfl) (laid_met os _)) ?_
  intro W base args ds gs before hval0 hW hcnd _ hL _
  have hval : ∀ (j : Nat) t v, Tryz.f5.params[j]? = some t → args[j]? = some v → Value.okWide Tryz.prog W .any base t v := hval0
  have hW' := hW
  obtain ⟨p, q, hA0, hV, rfl, hfz, hnd⟩ := hW
  have hA : DataW.TrodAll enc Tryz.prog W 0 (fun _ => true) true Tryz.f5.params.toList args.toList ds p := hA0
  rw [Tryz.params5] at hA hval
  obtain ⟨v0, vs0, d0, ds0, p0, q0, hargs, rfl, rfl, h0, r0⟩ := trodAll_cons hA
  obtain ⟨v1, vs1, d1, ds1, p1, q1, rfl, rfl, rfl, h1, r1⟩ := trodAll_cons r0
  obtain ⟨v2, vs2, d2, ds2, p2, q2, rfl, rfl, rfl, h2, r2⟩ := trodAll_cons r1
  obtain ⟨rfl, rfl, rfl⟩ := trodAll_nil r2
  obtain rfl : args = #[v0, v1, v2] := by cases args; simp_all
  obtain ⟨rfl, rfl⟩ := trodVars_none hV
  have k0 := h0
  have lt0 : ∀ x ∈ p0, x.block < W.heap.size := by obtain ⟨m, hm⟩ := k0; exact DataW.trod_lt m _ _ _ hm
  obtain ⟨ps0, ty0, rel0⟩ := arg_struct shColl_ok Tryz.underlying25 (hval 0 25 v0 rfl rfl) h0
  obtain ⟨x0, rfl, o0⟩ := coll_of ty0
  have k1 := h1
  have lt1 : ∀ x ∈ p1, x.block < W.heap.size := by obtain ⟨m, hm⟩ := k1; exact DataW.trod_lt m _ _ _ hm
  obtain ⟨ps1, ty1, rel1⟩ := arg_slice shInts_ok Tryz.underlying37 (hval 1 37 v1 rfl rfl) h1
  obtain ⟨x1, rfl, o1⟩ := ints_of ty1
  have rel1 := rel1 _ rfl
  have k2 := h2
  have lt2 : ∀ x ∈ p2, x.block < W.heap.size := by obtain ⟨m, hm⟩ := k2; exact DataW.trod_lt m _ _ _ hm
  obtain ⟨x2, rfl, rfl, rfl, o2⟩ := open_int Tryz.underlying3 (hval 2 3 v2 rfl rfl) h2
  have rel2 : TRel (K0 W) (.int .i64 x2) (.int .i64 x2) := .int _ _
  clear hA0 hval0
  refine (plain_calls1 (E := EE) (finds_plain x0 x1 .ro x2 o0.fits o1.2) (rel_of_laid hL _) rfl (fun i p u hp hu => ?_)).mono fun e W' ⟨he, bel⟩ => ?_
  · match i, hp, hu with
    | 0, hp, hu => simp at hp hu; subst hp hu; exact rel0
    | 1, hp, hu => simp at hp hu; subst hp hu; exact rel1
    | 2, hp, hu => simp at hp hu; subst hp hu; exact rel2
    | i + 3, hp, hu => simp at hp
  · subst he
    exact ⟨_, rfl, _, _, _, [], _, [], hW', trodAll_mk1 (shut_bool Tryz.underlying4 _), (trodAll_cons_mk (Below.trod laidOut (by kernel_rfl) (of_decide_eq_true (by kernel_rfl)) k0 bel lt0) (trodAll_cons_mk (Below.trod laidOut (by kernel_rfl) (of_decide_eq_true (by kernel_rfl)) k1 bel lt1) (trodAll_cons_mk (Below.trod laidOut (by kernel_rfl) (of_decide_eq_true (by kernel_rfl)) k2 bel lt2) trodAll_mk0))), rfl, bel.frame _, fun h => by cases h⟩
theorem over : Rows.colltableFindsRow.holds Tryz.pinned (OpenSpec.ofChange Rows.colltableFindsSpec) :=
  OpenClaim.holds_of_wide 5 Tryz.f5 rfl rfl rfl rfl rfl rfl rfl ⟨rfl, rfl, rfl, rfl, rfl⟩ rfl rfl rfl rfl rfl (by kernel_rfl) Tryz.func5 (by kernel_rfl)
    (of_decide_eq_true (by kernel_rfl)) (by unfold Func.isWrapper; first | (rw [if_pos (by decide +kernel)]; kernel_rfl) | (rw [if_neg (by decide +kernel)]; exact ⟨rfl, rfl⟩))
    (fun os started H enc _ => lifted os started H enc)
theorem card : Rows.ColltableFindsCardSaid :=
  Claim7.holds_tied_plain_at .later [] [.data, .data, .data, .data] true Rows.colltableFindsCard.stood.harness false
    over (fun _ h => by cases h) (by kernel_rfl) (fun _ h => by cases h) colltableFinds_row_tie rfl ⟨rfl, rfl⟩ (by kernel_rfl) rfl
    (fun f fn hf hfn => by
      obtain rfl : f = 5 := Option.some.inj ((show Tryz.prog.funcNamed "unicodetext/unicodetextlaw43.ColltableFinds" = some 5 by kernel_rfl).symm.trans hf) |>.symm
      obtain rfl : fn = Tryz.f5 := (Option.some.inj (Tryz.func5.symm.trans hfn)).symm
      exact ⟨by kernel_rfl, fun j t ht => by
        rw [Tryz.params5] at ht
        have hall : [25, 37, 3].all (fun t => !Tryz.prog.wantsStandIn t) = true := by kernel_rfl
        have hm : t ∈ ([25, 37, 3] : List Nat) := by
          obtain ⟨hj, rfl⟩ := Array.getElem?_eq_some_iff.1 ht
          simpa using Array.getElem_mem hj
        have := List.all_eq_true.1 hall t hm
        have e : Tryz.prog.wantsStandIn t = false := by simpa using this
        exact e⟩)
    (by kernel_rfl)
end Go.Proofs.YtgbaaobgnpjhcaaGreatDoor.colltableFinds
namespace Go.Proofs.YtgbaaobgnpjhcaaGreatDoor
/-- The tied card, under a short name, for the claim. -/
theorem colltableFindsCard_holds : Rows.ColltableFindsCardSaid := colltableFinds.card
#print axioms colltableFindsCard_holds
end Go.Proofs.YtgbaaobgnpjhcaaGreatDoor
end
