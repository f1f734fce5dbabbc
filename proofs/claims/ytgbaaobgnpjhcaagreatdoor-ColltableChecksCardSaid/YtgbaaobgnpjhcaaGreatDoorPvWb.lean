/-
  The pure machine, part Q: a region that draws its order of evaluation: when the order of the text stands for every order.
-/
import Derived.Test.YtgbaaobgnpjhcaaGreatDoorPvP
import Derived.LoopNIn
set_option linter.all false
set_option linter.unusedSimpArgs false
set_option linter.unusedVariables false
section
namespace Go.Pv

inductive Eff where
  | n | r | a | w
  deriving DecidableEq

/-- What an operation has to do with the store: nothing; it reads; it lays something new; it may change it. -/
def effO (pl : FuncId → Bool) (o : Oper) : Eff :=
  match o.op with
  | .call c => (match c.callee with
    | .builtin .len => .r
    | .builtin .max | .builtin .min => .n
    | .value (.func f) => if pl f then .n else .w
    | _ => .w)
  | .load .. | .lookup .. | .slice .. | .entry _ => .r
  | .alloc _ | .box .. | .makeMap .. | .makeSlice .. | .range .. => .a
  | .store .. | .mapUpdate .. | .next .. => .w
  | _ => .n

def effPair : Eff → Eff → Bool
  | .n, _ | _, .n | .r, .r | .r, .a => true
  | _, _ => false

def tmpsOf (ops : Array Oper) (o : Oper) : List Nat := o.looksAt ops
def apartT (ops : Array Oper) (x y : Oper) : Bool :=
  (match x.dst with | some d => !(tmpsOf ops y).contains d && y.dst != some d | none => true) &&
  (match y.dst with | some d => !(tmpsOf ops x).contains d | none => true)

/-- May the order of the text stand for every order? -/
def drawOk (pl : FuncId → Bool) (ops : Array Oper) (B : List Nat) : Bool :=
  (List.range ops.size).all fun j => match ops[j]? with
    | none => false
    | some oj => !isNext oj.op && (
      (oj.after.all fun e => !Region.binds .any e || decide (e.on < j)) &&
      ((B.getD j 0 == oj.after.foldl (fun s e => if Region.binds .any e then s ||| 2 ^ e.on ||| B.getD e.on 0 else s) 0) &&
      (List.range j).all fun i => (B.getD j 0).testBit i || match ops[i]? with
        | none => false
        | some oi => apartT ops oi oj && effPair (effO pl oi) (effO pl oj)))

/-! ### What an operation looks at -/

theorem evalO_congr {E : Env} {fr fr' : Fr} {x : Operand} (h : ∀ t, x = .tmp t → fr' t = fr t) : evalO E fr' x = evalO E fr x := by
  cases x <;> simp [evalO]
  exact h _ rfl
theorem evalT_congr {E : Env} {t : TypeId} {fr fr' : Fr} {x : Operand} (h : ∀ t, x = .tmp t → fr' t = fr t) : evalT E t fr' x = evalT E t fr x := by
  unfold evalT
  split
  · rfl
  · exact evalO_congr h

theorem opF_congr {E : Env} {ty : TypeId} {fr fr' : Fr} {st : Store} {op : Op} (h : ∀ t, Operand.tmp t ∈ op.operands → fr' t = fr t) : opF E ty fr' st op = opF E ty fr st op := by
  have hO : ∀ x, x ∈ op.operands → evalO E fr' x = evalO E fr x := fun x hx => evalO_congr fun t e => h t (e ▸ hx)
  have hT : ∀ t x, x ∈ op.operands → evalT E t fr' x = evalT E t fr x := fun t x hx => evalT_congr fun t e => h t (e ▸ hx)
  cases op <;> try rfl
  case makeMap t r => cases r <;> rfl
  case move x => simp only [opF]; rw [hT ty x (by simp [Op.operands])]
  case assign x => simp only [opF]; rw [hT ty x (by simp [Op.operands])]
  case pick c a b => simp only [opF]; rw [hO c (by simp [Op.operands]), hO a (by simp [Op.operands]), hO b (by simp [Op.operands])]
  case box e x => simp only [opF]; rw [hT e x (by simp [Op.operands])]
  case build t parts =>
    have : (parts.toList.map fun q => (q.1, evalO E fr' q.2)) = parts.toList.map fun q => (q.1, evalO E fr q.2) :=
      List.map_congr_left fun q hq => by rw [hO q.2 (by simp only [Op.operands, List.mem_toArray, List.mem_map]; exact ⟨q, hq, rfl⟩)]
    simp only [opF]; rw [this]
  case buildSlice t len parts =>
    have e1 : ∀ e, (parts.toList.all fun q => (scal (evalT E e fr' q.2) || isAgg (evalT E e fr' q.2)) && (cellsOf (evalT E e fr' q.2)).length == (match E.T e with | some te => te.size | none => 0)) = parts.toList.all fun q => (scal (evalT E e fr q.2) || isAgg (evalT E e fr q.2)) && (cellsOf (evalT E e fr q.2)).length == (match E.T e with | some te => te.size | none => 0) := fun e => by
      rw [Bool.eq_iff_iff, List.all_eq_true, List.all_eq_true]
      exact forall_congr' fun q => forall_congr' fun hq => by rw [hT e q.2 (by simp only [Op.operands, List.mem_toArray, List.mem_map]; exact ⟨q, hq, rfl⟩)]
    have e2 : ∀ e, (parts.toList.map fun q => (cellsOf (evalT E e fr' q.2)).map tokRo) = parts.toList.map fun q => (cellsOf (evalT E e fr q.2)).map tokRo := fun e =>
      List.map_congr_left fun q hq => by rw [hT e q.2 (by simp only [Op.operands, List.mem_toArray, List.mem_map]; exact ⟨q, hq, rfl⟩)]
    simp only [opF]
    cases hti : E.T t with
    | none => rfl
    | some ti =>
      obtain ⟨k, s, z⟩ := ti
      cases k <;> try rfl
      rename_i e
      cases hte : E.T e with
      | none => simp only [hte]
      | some te =>
        have e1 := e1 e
        simp only [hte] at e1 ⊢
        rw [e1, e2 e]
  case load t x => simp only [opF]; rw [hO x (by simp [Op.operands])]
  case store t x y => simp only [opF]; rw [hO x (by simp [Op.operands]), hT t y (by simp [Op.operands])]
  case binOp op t x y _ => simp only [opF]; rw [hO x (by simp [Op.operands]), hO y (by simp [Op.operands])]
  case unOp op t x => simp only [opF]; rw [hO x (by simp [Op.operands])]
  case nilCheck x => simp only [opF]; rw [hO x (by simp [Op.operands])]
  case convert s d x => simp only [opF]; rw [hO x (by simp [Op.operands])]
  case makeFunc f first caps =>
    cases f <;> try rfl
    have : caps.toList.map (evalO E fr') = caps.toList.map (evalO E fr) := List.map_congr_left fun q hq => hO q (by simp [Op.operands]; exact .inr (by simpa using hq))
    simp only [opF]; rw [this]
  case makeSlice t l c => simp only [opF]; rw [hO l (by simp [Op.operands]), hO c (by simp [Op.operands])]
  case slice t x lo hi mx =>
    have o : ∀ y : Option Operand, (∀ z, y = some z → z ∈ (Op.slice t x lo hi mx).operands) → y.map (evalO E fr') = y.map (evalO E fr) := fun y hy => by
      cases y with
      | none => rfl
      | some z => simp [hO z (hy z rfl)]
    simp only [opF]
    rw [hO x (by simp [Op.operands]), o lo (fun z e => by subst e; simp [Op.operands]), o hi (fun z e => by subst e; simp [Op.operands]), o mx (fun z e => by subst e; simp [Op.operands])]
  case range t x => simp only [opF]; rw [hO x (by simp [Op.operands])]
  case entry x => simp only [opF]; rw [hO x (by simp [Op.operands])]
  case fieldAddr s x f => simp only [opF]; rw [hO x (by simp [Op.operands])]
  case field t x f => simp only [opF]; rw [hO x (by simp [Op.operands])]
  case indexAddr t x i => simp only [opF]; rw [hO x (by simp [Op.operands]), hO i (by simp [Op.operands])]
  case index t x i => simp only [opF]; rw [hO x (by simp [Op.operands]), hO i (by simp [Op.operands])]
  case lookup t m k ok => simp only [opF]; rw [hO m (by simp [Op.operands]), hO k (by simp [Op.operands])]
  case mapUpdate t m k x =>
    have : ∀ tv, evalT E tv fr' x = evalT E tv fr x := fun tv => hT tv x (by simp [Op.operands])
    simp only [opF]; rw [hO m (by simp [Op.operands]), hO k (by simp [Op.operands])]
    simp only [this]
  case extract t i => simp only [opF]; rw [hO t (by simp [Op.operands])]
  case call c =>
    obtain ⟨callee, args, argTypes⟩ := c
    cases callee <;> try rfl
    have : ((args.toList.zip argTypes.toList).map fun q => evalT E q.2 fr' q.1) = (args.toList.zip argTypes.toList).map fun q => evalT E q.2 fr q.1 :=
      List.map_congr_left fun q hq => hT q.2 q.1 (by
        have := (List.of_mem_zip hq).1
        simp [Op.operands, Call.operands]; simpa using this)
    simp only [opF]; rw [this]

theorem stepR_call {E : Env} {fr : Fr} {st : Store} {o : Oper} {v : PV} {st' : Store} {c : Call} {g : Operand} (hop : o.op = .call c) (hc : c.callee = .value g) : StepR E fr st o v st' = CallR E fr st g c v st' := by
  unfold StepR
  rw [hop]
  simp only [hc]
theorem stepR_op {E : Env} {fr : Fr} {st : Store} {o : Oper} {v : PV} {st' : Store} (h : ∀ c g, o.op = .call c → c.callee ≠ .value g) : StepR E fr st o v st' = (opF E o.type fr st o.op = some (v, st')) := by
  unfold StepR
  split
  · rename_i c hop
    split
    · rename_i g hc; exact absurd hc (h c g hop)
    · rw [hop]
  · rfl

theorem stepR_congr {E : Env} {fr fr' : Fr} {st : Store} {o : Oper} {v : PV} {st' : Store} (h : ∀ t, Operand.tmp t ∈ o.op.operands → fr' t = fr t) (s : StepR E fr st o v st') : StepR E fr' st o v st' := by
  by_cases hc : ∃ c g, o.op = .call c ∧ c.callee = .value g
  · obtain ⟨c, g, hop, hc⟩ := hc
    rw [stepR_call hop hc] at s ⊢
    have hops : o.op.operands = #[g] ++ c.args := by rw [hop]; simp [Op.operands, Call.operands, hc]
    have e1 : evalO E fr' g = evalO E fr g := evalO_congr fun t e => h t (by rw [hops, ← e]; simp)
    have e2 : callArgs E fr' c = callArgs E fr c := List.map_congr_left fun q hq => evalT_congr fun t e => h t (by
      have := (List.of_mem_zip hq).1
      rw [hops, ← e]; simp at this ⊢; exact .inr this)
    unfold CallR at s ⊢
    rw [e1, e2]
    exact s
  · have hn : ∀ c g, o.op = .call c → c.callee ≠ .value g := fun c g e1 e2 => hc ⟨c, g, e1, e2⟩
    rw [stepR_op hn] at s ⊢
    rw [← s]
    exact opF_congr fun t ht => h t ht

/-! ### The effects -/

theorem callB_n {E : Env} {st : Store} {b : Builtin} {ts : List TypeId} {xs : List PV} (hb : b = .max ∨ b = .min) : callB E st b ts xs = (callB E [] b ts xs).map fun q => (q.1, st) := by
  rcases hb with rfl | rfl <;> unfold callB <;> split <;> (try contradiction) <;> (try rfl) <;> (split <;> rfl)

theorem opF_n {E : Env} {ty : TypeId} {fr : Fr} {o : Oper} {pl : FuncId → Bool} (h : effO pl o = .n) (hn : ∀ c g, o.op = .call c → c.callee ≠ .value g) (st : Store) : opF E ty fr st o.op = (opF E ty fr [] o.op).map fun q => (q.1, st) := by
  obtain ⟨dst, op, ty', pos, after, guard⟩ := o
  cases op <;> simp only [effO] at h <;> (try cases h; done) <;> (try rfl)
  case makeFunc f first caps => cases f <;> first | rfl | (simp only [opF]; split <;> rfl)
  all_goals simp only [opF]
  case call c =>
    obtain ⟨callee, args, argTypes⟩ := c
    cases callee with
    | builtin b =>
      have hb : b = .max ∨ b = .min := by cases b <;> simp at h <;> simp
      simp only
      split
      · exact callB_n hb
      · rfl
    | value g => exact absurd rfl (hn _ g rfl)
    | invoke r m => rfl
  all_goals repeat' split
  all_goals first | rfl | (simp only [Option.map_map]; rfl)

theorem opF_a {E : Env} {ty : TypeId} {fr : Fr} {st st' : Store} {v : PV} {o : Oper} {pl : FuncId → Bool} (h : effO pl o = .a) (hn : ∀ c g, o.op = .call c → c.callee ≠ .value g) (ho : opF E ty fr st o.op = some (v, st')) : ∃ x, st' = st ++ x := by
  obtain ⟨dst, op, ty', pos, after, guard⟩ := o
  cases op
  case call c =>
    obtain ⟨callee, args, argTypes⟩ := c
    cases callee with
    | builtin b => cases b <;> cases h
    | invoke r m => cases h
    | value g => exact absurd rfl (hn _ g rfl)
  case makeMap t r => cases r <;> simp [opF] at ho; exact ⟨_, ho.2.symm⟩
  all_goals simp only [effO] at h
  all_goals (try cases h; done)
  all_goals simp only [opF] at ho
  all_goals (repeat' split at ho) <;> (try cases ho; done)
  all_goals (simp only [Option.some.injEq, Prod.mk.injEq] at ho; exact ⟨_, ho.2.symm⟩)

theorem get_app {st x : Store} {id : Nat} {o : Ob} (h : st[id]? = some o) : (st ++ x)[id]? = some o := by
  rw [List.getElem?_append_left (List.getElem?_eq_some_iff.1 h).1]; exact h

theorem opF_r {E : Env} {ty : TypeId} {fr : Fr} {st st' : Store} {v : PV} {o : Oper} {pl : FuncId → Bool} (h : effO pl o = .r) (hn : ∀ c g, o.op = .call c → c.callee ≠ .value g) (ho : opF E ty fr st o.op = some (v, st')) : st' = st ∧ ∀ x, opF E ty fr (st ++ x) o.op = some (v, st ++ x) := by
  obtain ⟨dst, op, ty', pos, after, guard⟩ := o
  cases op
  case call c =>
    obtain ⟨callee, args, argTypes⟩ := c
    cases callee with
    | invoke r m => cases h
    | value g => exact absurd rfl (hn _ g rfl)
    | builtin b =>
      cases b
      case len =>
        simp only [opF] at ho ⊢
        split at ho
        · rename_i hsz
          simp only [if_pos hsz]
          unfold callB at ho ⊢
          split at ho <;> (try contradiction) <;> (try cases ho; done)
          rename_i t x heq
          split at ho
          · cases ho
          · rename_i ti hT
            split at ho
            · simp only [Option.some.injEq, Prod.mk.injEq] at ho; obtain ⟨rfl, rfl⟩ := ho; exact ⟨rfl, fun _ => rfl⟩
            · simp only [Option.some.injEq, Prod.mk.injEq] at ho; obtain ⟨rfl, rfl⟩ := ho; exact ⟨rfl, fun _ => rfl⟩
            · simp only [Option.some.injEq, Prod.mk.injEq] at ho; obtain ⟨rfl, rfl⟩ := ho; exact ⟨rfl, fun _ => rfl⟩
            · simp only [Option.some.injEq, Prod.mk.injEq] at ho; obtain ⟨rfl, rfl⟩ := ho; exact ⟨rfl, fun _ => rfl⟩
            · split at ho
              · rename_i hst
                simp only [Option.some.injEq, Prod.mk.injEq] at ho
                obtain ⟨rfl, rfl⟩ := ho
                exact ⟨rfl, fun x => by simp only [get_app hst]⟩
              · cases ho
            · cases ho
        · cases ho
      all_goals cases h
  case load t x =>
    simp only [opF] at ho ⊢
    split at ho
    · obtain ⟨p, hp, q⟩ := Option.map_eq_some_iff.1 ho
      simp only [Prod.mk.injEq] at q
      obtain ⟨rfl, rfl⟩ := q
      exact ⟨rfl, fun x => by rw [hp]; rfl⟩
    · split at ho
      · rename_i hst
        split at ho
        · rename_i htot
          obtain ⟨p, hp, q⟩ := Option.map_eq_some_iff.1 ho
          simp only [Prod.mk.injEq] at q
          obtain ⟨rfl, rfl⟩ := q
          exact ⟨rfl, fun x => by simp only [get_app hst, if_pos htot, hp]; rfl⟩
        · cases ho
      · cases ho
    · cases ho
  case entry y =>
    simp only [opF] at ho ⊢
    split at ho
    · split at ho
      · rename_i hi
        split at ho
        · rename_i hm
          split at ho
          · rename_i hn
            split at ho
            · rename_i hj
              split at ho
              · rename_i he
                simp only [Option.some.injEq, Prod.mk.injEq] at ho
                obtain ⟨rfl, rfl⟩ := ho
                exact ⟨rfl, fun x => by simp only [get_app hi, get_app hm, if_pos hn, hj, he]⟩
              · cases ho
            · cases ho
          · cases ho
        · cases ho
      · cases ho
    · cases ho
  case lookup t m k ok =>
    simp only [opF] at ho ⊢
    split at ho
    · split at ho
      · split at ho
        · rename_i hk
          simp only [if_pos hk]
          split at ho
          · rename_i es hes
            have hes' : ∀ x, mapEs (st ++ x) (evalO E fr m) = some es := fun x => by
              unfold mapEs at hes ⊢
              split at hes
              · exact hes
              · split at hes
                · rename_i hst; simp only [get_app hst]; exact hes
                · cases hes
              · cases hes
            simp only [hes']
            split at ho
            · simp only [Option.some.injEq, Prod.mk.injEq] at ho; obtain ⟨rfl, rfl⟩ := ho; exact ⟨rfl, fun _ => rfl⟩
            · simp only [Option.some.injEq, Prod.mk.injEq] at ho; obtain ⟨rfl, rfl⟩ := ho; exact ⟨rfl, fun _ => rfl⟩
            · cases ho
          · cases ho
        · cases ho
      · cases ho
    · cases ho
  case slice t x lo hi mx =>
    simp only [opF] at ho ⊢
    split at ho
    · split at ho
      · split at ho
        · split at ho
          · rename_i hmx
            simp only [Option.some.injEq, Prod.mk.injEq] at ho; obtain ⟨rfl, rfl⟩ := ho; exact ⟨rfl, fun _ => by simp only [if_pos hmx]⟩
          · cases ho
        · cases ho
      · split at ho
        · split at ho
          · cases ho
          · rename_i hk
            simp only [Option.some.injEq, Prod.mk.injEq] at ho; obtain ⟨rfl, rfl⟩ := ho; exact ⟨rfl, fun _ => by simp only [if_neg hk]⟩
        · cases ho
      · split at ho
        · split at ho
          · rename_i hk
            simp only [Option.some.injEq, Prod.mk.injEq] at ho; obtain ⟨rfl, rfl⟩ := ho; exact ⟨rfl, fun _ => by simp only [if_pos hk]⟩
          · cases ho
        · cases ho
      · split at ho
        · rename_i hTe hst hsl
          split at ho
          · rename_i hk
            simp only [Option.some.injEq, Prod.mk.injEq] at ho; obtain ⟨rfl, rfl⟩ := ho; exact ⟨rfl, fun _ => by simp only [get_app hst, hTe, hsl, if_pos hk]⟩
          · cases ho
        · cases ho
      · cases ho
    · cases ho
  all_goals cases h

theorem stepR_n {E : Env} {fr : Fr} {st st' : Store} {v : PV} {o : Oper} (h : effO E.pl o = .n) (s : StepR E fr st o v st') : st' = st ∧ ∀ st1, StepR E fr st1 o v st1 := by
  by_cases hc : ∃ c g, o.op = .call c ∧ c.callee = .value g
  · obtain ⟨c, g, hop, hc⟩ := hc
    rw [stepR_call hop hc] at s
    unfold effO at h
    rw [hop] at h
    simp only [hc] at h
    cases g with
    | func f =>
      simp only at h
      split at h
      · rename_i hp
        unfold CallR at s
        simp only [evalO, if_pos hp] at s
        obtain ⟨s1, s2, s3, s4⟩ := s
        refine ⟨s3, fun st1 => ?_⟩
        rw [stepR_call hop hc]
        unfold CallR
        simp only [evalO, if_pos hp]
        exact ⟨s1, s2, trivial, s4⟩
      · cases h
    | _ => cases h
  · have hn : ∀ c g, o.op = .call c → c.callee ≠ .value g := fun c g e1 e2 => hc ⟨c, g, e1, e2⟩
    rw [stepR_op hn] at s
    rw [opF_n h hn st] at s
    obtain ⟨p, hp, q⟩ := Option.map_eq_some_iff.1 s
    simp only [Prod.mk.injEq] at q
    obtain ⟨rfl, rfl⟩ := q
    refine ⟨rfl, fun st1 => ?_⟩
    rw [stepR_op hn, opF_n h hn st1, hp]
    rfl

theorem effO_value {pl : FuncId → Bool} {o : Oper} {c : Call} {g : Operand} (hop : o.op = .call c) (hc : c.callee = .value g) : effO pl o = .n ∨ effO pl o = .w := by
  unfold effO
  rw [hop]
  simp only [hc]
  cases g with
  | func f => simp only; split <;> simp
  | _ => exact .inr rfl

theorem stepR_r {E : Env} {fr : Fr} {st st' : Store} {v : PV} {o : Oper} (h : effO E.pl o = .r) (s : StepR E fr st o v st') : st' = st ∧ ∀ x, StepR E fr (st ++ x) o v (st ++ x) := by
  have hn : ∀ c g, o.op = .call c → c.callee ≠ .value g := fun c g e1 e2 => by
    rcases effO_value (pl := E.pl) e1 e2 with q | q <;> rw [h] at q <;> cases q
  rw [stepR_op hn] at s
  obtain ⟨e, q⟩ := opF_r h hn s
  exact ⟨e, fun x => by rw [stepR_op hn]; exact q x⟩
theorem stepR_a {E : Env} {fr : Fr} {st st' : Store} {v : PV} {o : Oper} (h : effO E.pl o = .a) (s : StepR E fr st o v st') : ∃ x, st' = st ++ x := by
  have hn : ∀ c g, o.op = .call c → c.callee ≠ .value g := fun c g e1 e2 => by
    rcases effO_value (pl := E.pl) e1 e2 with q | q <;> rw [h] at q <;> cases q
  rw [stepR_op hn] at s
  exact opF_a h hn s

/-! ### The order of the text, taken apart -/

/-- What the operations do one after another. -/
def TrOk (E : Env) (ops : Array Oper) (fs : Nat → Fr) (ss : Nat → Store) (vs : Nat → PV) (wt : Nat → Bool) (i : Nat) (o : Oper) : Prop :=
  guardF ops (fs i) o = some (wt i) ∧ fs (i + 1) = upd (fs i) o.dst (vs i) ∧ (wt i = true → StepR E (fs i) (ss i) o (vs i) (ss (i + 1))) ∧ (wt i = false → vs i = .tup [] ∧ ss (i + 1) = ss i)

theorem OpsW.trace {E : Env} {ops : Array Oper} {K : Fr → Store → Prop} : ∀ (l : List Oper) (fr : Fr) (st : Store), (∀ o ∈ l, isNext o.op = false) → OpsW E ops l fr st K →
    ∃ (fs : Nat → Fr) (ss : Nat → Store) (vs : Nat → PV) (wt : Nat → Bool), fs 0 = fr ∧ ss 0 = st ∧ (∀ (i : Nat) (o : Oper), l[i]? = some o → TrOk E ops fs ss vs wt i o) ∧ K (fs l.length) (ss l.length)
  | [], fr, st, _, h => ⟨fun _ => fr, fun _ => st, fun _ => .bad, fun _ => false, rfl, rfl, by simp, h⟩
  | o :: rest, fr, st, hx, h => by
    unfold OpsW at h
    rw [stepW_other (hx o (by simp))] at h
    have h : (guardF ops fr o = some true ∧ ∃ v st', StepR E fr st o v st' ∧ OpsW E ops rest (upd fr o.dst v) st' K) ∨ (guardF ops fr o = some false ∧ OpsW E ops rest (upd fr o.dst (.tup [])) st K) := by
      split at h
      · rename_i g hg
        cases g with
        | true => exact .inl ⟨hg, h.1 rfl⟩
        | false => exact .inr ⟨hg, h.2 rfl⟩
      · exact h.elim
    rcases h with ⟨hg, h⟩ | ⟨hg, h⟩
    · obtain ⟨v, st', hs, h⟩ := h
      obtain ⟨fs, ss, vs, wt, h1, h2, h3, h4⟩ := OpsW.trace rest _ _ (fun o ho => hx o (by simp [ho])) h
      refine ⟨fun | 0 => fr | i + 1 => fs i, fun | 0 => st | i + 1 => ss i, fun | 0 => v | i + 1 => vs i, fun | 0 => true | i + 1 => wt i, rfl, rfl, fun i o' hi => ?_, h4⟩
      cases i with
      | zero =>
        simp at hi; subst hi
        refine ⟨hg, h1, fun _ => by rw [← h2] at hs; exact hs, fun q => ?_⟩
        exact absurd q (by simp)
      | succ i => exact h3 i o' (by simpa using hi)
    · obtain ⟨fs, ss, vs, wt, h1, h2, h3, h4⟩ := OpsW.trace rest _ _ (fun o ho => hx o (by simp [ho])) h
      refine ⟨fun | 0 => fr | i + 1 => fs i, fun | 0 => st | i + 1 => ss i, fun | 0 => .tup [] | i + 1 => vs i, fun | 0 => false | i + 1 => wt i, rfl, rfl, fun i o' hi => ?_, h4⟩
      cases i with
      | zero =>
        simp at hi; subst hi
        refine ⟨hg, h1, fun q => ?_, fun _ => ⟨rfl, h2⟩⟩
        exact absurd q (by simp)
      | succ i => exact h3 i o' (by simpa using hi)

/-! ### In whatever order -/
section canon
variable (ops : Array Oper) (L : Nat → Bool) (f0 : Fr) (s0 : Store) (vs : Nat → PV) (ss : Nat → Store) (chg : Nat → Bool)

def cFr : Nat → Fr
  | 0 => f0
  | i + 1 => if L i then (match ops[i]? with | some o => upd (cFr i) o.dst (vs i) | none => cFr i) else cFr i
def cSt : Nat → Store
  | 0 => s0
  | i + 1 => if L i && chg i then ss (i + 1) else cSt i
end canon

def chgO (pl : FuncId → Bool) (ops : Array Oper) (i : Nat) : Bool := match ops[i]? with | some o => (match effO pl o with | .a | .w => true | _ => false) | none => false

theorem upd_ne {fr : Fr} {d : Option Nat} {v : PV} {t : Nat} (h : d ≠ some t) : upd fr d v t = fr t := by
  cases d with
  | none => rfl
  | some u => simp only [upd]; rw [if_neg]; intro e; exact h (by rw [e])
theorem upd_eq {fr : Fr} {v : PV} {t : Nat} : upd fr (some t) v t = v := by simp [upd]

/-- The facts of a region that passes the check. -/
structure DrawFacts (pl : FuncId → Bool) (ops : Array Oper) (B : List Nat) : Prop where
  nonext : ∀ (j : Nat) (oj : Oper), ops[j]? = some oj → isNext oj.op = false
  edge : ∀ (j : Nat) (oj : Oper), ops[j]? = some oj → ∀ e ∈ oj.after, Region.binds .any e = true → e.on < j
  mask : ∀ (j : Nat) (oj : Oper), ops[j]? = some oj → B.getD j 0 = oj.after.foldl (fun s e => if Region.binds .any e then s ||| 2 ^ e.on ||| B.getD e.on 0 else s) 0
  pair : ∀ (i j : Nat) (oi oj : Oper), ops[i]? = some oi → ops[j]? = some oj → i < j → (B.getD j 0).testBit i = false → apartT ops oi oj = true ∧ effPair (effO pl oi) (effO pl oj) = true

theorem drawFacts {pl : FuncId → Bool} {ops : Array Oper} {B : List Nat} (h : drawOk pl ops B = true) : DrawFacts pl ops B := by
  unfold drawOk at h
  rw [List.all_eq_true] at h
  have at_ : ∀ (j : Nat) (oj : Oper), ops[j]? = some oj → _ := fun j oj hj => by
    have := h j (by simpa using (Array.getElem?_eq_some_iff.1 hj).1)
    rw [hj] at this
    simp only [Bool.and_eq_true] at this
    exact this
  refine ⟨fun j oj hj => by simpa using (at_ j oj hj).1, fun j oj hj e he hb => ?_, fun j oj hj => ?_, fun i j oi oj hi hj hlt hB => ?_⟩
  · have := (at_ j oj hj).2.1
    rw [Array.all_eq_true_iff_forall_mem] at this
    simpa [hb] using this e he
  · simpa using (at_ j oj hj).2.2.1
  · have := (at_ j oj hj).2.2.2
    rw [List.all_eq_true] at this
    have := this i (by simpa using hlt)
    rw [hB, hi] at this
    simpa using this

theorem mask_spec (B : List Nat) (l : List Edge) (s0 : Nat) (i : Nat) : (l.foldl (fun s e => if Region.binds .any e then s ||| 2 ^ e.on ||| B.getD e.on 0 else s) s0).testBit i = true →
    s0.testBit i = true ∨ ∃ e ∈ l, Region.binds .any e = true ∧ (e.on = i ∨ (B.getD e.on 0).testBit i = true) := by
  induction l generalizing s0 with
  | nil => intro h; exact .inl h
  | cons e l ih =>
    intro h
    rw [List.foldl_cons] at h
    rcases ih _ h with q | ⟨e', he, q⟩
    · split at q
      · rename_i hb
        simp only [Nat.testBit_or, Bool.or_eq_true, Nat.testBit_two_pow, decide_eq_true_eq] at q
        rcases q with (q | q) | q
        · exact .inl q
        · exact .inr ⟨e, by simp, hb, .inl q⟩
        · exact .inr ⟨e, by simp, hb, .inr q⟩
      · exact .inl q
    · exact .inr ⟨e', by simp [he], q⟩

/-- What has been done is closed: with an operation, all that it waits for. -/
def Closed (ops : Array Oper) (L : Nat → Bool) : Prop := ∀ (j : Nat) (oj : Oper), ops[j]? = some oj → L j = true → ∀ e ∈ oj.after, Region.binds .any e = true → L e.on = true

theorem DrawFacts.before {pl ops B} (h : DrawFacts pl ops B) {L : Nat → Bool} (hL : Closed ops L) : ∀ (j : Nat) (oj : Oper), ops[j]? = some oj → (∀ e ∈ oj.after, Region.binds .any e = true → L e.on = true) → ∀ i, (B.getD j 0).testBit i = true → L i = true := by
  intro j
  induction j using Nat.strongRecOn with
  | _ j ih =>
    intro oj hj hpre i hi
    rw [h.mask j oj hj, ← Array.foldl_toList] at hi
    rcases mask_spec B _ 0 i hi with q | ⟨e, he, hb, q⟩
    · simp at q
    · have he' : e ∈ oj.after := by simpa using he
      have hLe := hpre e he' hb
      rcases q with rfl | q
      · exact hLe
      · have hlt := h.edge j oj hj e he' hb
        have hjs := (Array.getElem?_eq_some_iff.1 hj).1
        have hoe : ops[e.on]? = some (ops[e.on]'(by omega)) := Array.getElem?_eq_getElem (by omega)
        exact ih e.on hlt _ hoe (fun e2 h2 hb2 => hL e.on _ hoe hLe e2 h2 hb2) i q

end Go.Pv
end
section
namespace Go.Pv

theorem le_ind {k : Nat} {motive : (m : Nat) → k ≤ m → Prop} (base : motive k (Nat.le_refl k)) (succ : ∀ (m : Nat) (hm : k ≤ m), motive m hm → motive (m + 1) (Nat.le_succ_of_le hm)) (m : Nat) (hm : k ≤ m) : motive m hm := by
  induction m with
  | zero =>
    have : k = 0 := by omega
    subst this
    exact base
  | succ m ih =>
    by_cases h : k ≤ m
    · exact succ m h (ih h)
    · have : k = m + 1 := by omega
      subst this
      exact base

section
variable {E : Env} {ops : Array Oper} {B : List Nat} {fs : Nat → Fr} {ss : Nat → Store} {vs : Nat → PV} {wt : Nat → Bool}

def Ready (ops : Array Oper) (L : Nat → Bool) (k : Nat) (ok : Oper) : Prop := ops[k]? = some ok ∧ L k = false ∧ ∀ e ∈ ok.after, Region.binds .any e = true → L e.on = true

theorem DrawFacts.lower (D : DrawFacts E.pl ops B) {L : Nat → Bool} (hL : Closed ops L) {k : Nat} {ok : Oper} (hk : Ready ops L k ok) {m : Nat} {om : Oper} (hm : ops[m]? = some om) (hlt : m < k) (hLm : L m = false) :
    apartT ops om ok = true ∧ effPair (effO E.pl om) (effO E.pl ok) = true := by
  refine D.pair m k om ok hm hk.1 hlt ?_
  cases hb : (B.getD k 0).testBit m with
  | false => rfl
  | true => rw [D.before hL k ok hk.1 hk.2.2 m hb] at hLm; cases hLm
theorem DrawFacts.upper (D : DrawFacts E.pl ops B) {L : Nat → Bool} (hL : Closed ops L) {k : Nat} {ok : Oper} (hk : Ready ops L k ok) {m : Nat} {om : Oper} (hm : ops[m]? = some om) (hlt : k < m) (hLm : L m = true) :
    apartT ops ok om = true ∧ effPair (effO E.pl ok) (effO E.pl om) = true := by
  refine D.pair k m ok om hk.1 hm hlt ?_
  cases hb : (B.getD m 0).testBit k with
  | false => rfl
  | true => have := D.before hL m om hm (hL m om hm hLm) k hb; rw [hk.2.1] at this; cases this
theorem DrawFacts.under (D : DrawFacts E.pl ops B) {L : Nat → Bool} (hL : Closed ops L) {m : Nat} {om : Oper} (hm : ops[m]? = some om) (hLm : L m = true) {i : Nat} {oi : Oper} (hi : ops[i]? = some oi) (hlt : i < m) (hLi : L i = false) :
    apartT ops oi om = true ∧ effPair (effO E.pl oi) (effO E.pl om) = true := by
  refine D.pair i m oi om hi hm hlt ?_
  cases hb : (B.getD m 0).testBit i with
  | false => rfl
  | true => have := D.before hL m om hm (hL m om hm hLm) i hb; rw [hLi] at this; cases this

theorem apartT_spec {x y : Oper} (h : apartT ops x y = true) : (∀ d, x.dst = some d → d ∉ tmpsOf ops y ∧ y.dst ≠ some d) ∧ ∀ d, y.dst = some d → d ∉ tmpsOf ops x := by
  unfold apartT at h
  simp only [Bool.and_eq_true] at h
  obtain ⟨h1, h2⟩ := h
  refine ⟨fun d hd => ?_, fun d hd => ?_⟩
  · rw [hd] at h1; simpa using h1
  · rw [hd] at h2; simpa using h2

theorem cFr_in {L : Nat → Bool} {f0 : Fr} {i : Nat} {o : Oper} (ho : ops[i]? = some o) (hL : L i = true) : cFr ops L f0 vs (i + 1) = upd (cFr ops L f0 vs i) o.dst (vs i) := by
  simp [cFr, ho, hL]
theorem cFr_out {L : Nat → Bool} {f0 : Fr} {i : Nat} (hL : L i = false) : cFr ops L f0 vs (i + 1) = cFr ops L f0 vs i := by simp [cFr, hL]

theorem op_at {i n : Nat} (h : i < n) (hn : n ≤ ops.size) : ∃ o, ops[i]? = some o := ⟨_, Array.getElem?_eq_getElem (by omega)⟩

theorem upd_congr {fr fr' : Fr} {d : Option Nat} {v : PV} {t : Nat} (h : fr t = fr' t) : upd fr d v t = upd fr' d v t := by
  cases d with
  | none => exact h
  | some u => simp only [upd]; split
              · rfl
              · exact h

/-- What an operation that may come up looks at is as it is in the order of the text. -/
theorem cFr_looks (D : DrawFacts E.pl ops B) (tr : ∀ (i : Nat) (o : Oper), ops[i]? = some o → TrOk E ops fs ss vs wt i o) {L : Nat → Bool} (hL : Closed ops L) {k : Nat} {ok : Oper} (hk : Ready ops L k ok) {t : Nat} (ht : t ∈ tmpsOf ops ok) :
    cFr ops L (fs 0) vs ops.size t = fs k t := by
  have hks : k < ops.size := (Array.getElem?_eq_some_iff.1 hk.1).1
  have low : ∀ m, m ≤ k → cFr ops L (fs 0) vs m t = fs m t := by
    intro m
    induction m with
    | zero => intro _; rfl
    | succ m ih =>
      intro hm
      obtain ⟨om, hom⟩ := op_at (ops := ops) (i := m) (n := ops.size) (by omega) (Nat.le_refl _)
      rw [(tr m om hom).2.1]
      cases hLm : L m with
      | true => rw [cFr_in hom hLm]; exact upd_congr (ih (by omega))
      | false =>
        rw [cFr_out hLm, ih (by omega), upd_ne]
        intro e
        exact ((apartT_spec (D.lower hL hk hom (by omega) hLm).1).1 t e).1 ht
  have high : ∀ m, k ≤ m → m ≤ ops.size → cFr ops L (fs 0) vs m t = cFr ops L (fs 0) vs k t := by
    intro m hm
    induction m, hm using le_ind with
    | base => intro _; rfl
    | succ m hm ih =>
      intro hms
      obtain ⟨om, hom⟩ := op_at (ops := ops) (i := m) (n := ops.size) (by omega) (Nat.le_refl _)
      cases hLm : L m with
      | false => rw [cFr_out hLm, ih (by omega)]
      | true =>
        have hne : k ≠ m := fun e => by subst e; rw [hk.2.1] at hLm; cases hLm
        rw [cFr_in hom hLm, upd_ne, ih (by omega)]
        intro e
        exact (apartT_spec (D.upper hL hk hom (by omega) hLm).1).2 t e ht
  rw [high _ (by omega) (Nat.le_refl _), low k (Nat.le_refl _)]

def adds (L : Nat → Bool) (k : Nat) : Nat → Bool := fun i => i == k || L i
theorem adds_ne {L : Nat → Bool} {k i : Nat} (h : i ≠ k) : adds L k i = L i := by simp [adds, h]
theorem adds_eq {L : Nat → Bool} {k : Nat} : adds L k k = true := by simp [adds]

theorem cFr_adds (D : DrawFacts E.pl ops B) {L : Nat → Bool} (hL : Closed ops L) {k : Nat} {ok : Oper} (hk : Ready ops L k ok) (f0 : Fr) :
    cFr ops (adds L k) f0 vs ops.size = upd (cFr ops L f0 vs ops.size) ok.dst (vs k) := by
  have hks : k < ops.size := (Array.getElem?_eq_some_iff.1 hk.1).1
  have low : ∀ m, m ≤ k → cFr ops (adds L k) f0 vs m = cFr ops L f0 vs m := by
    intro m
    induction m with
    | zero => intro _; rfl
    | succ m ih =>
      intro hm
      simp only [cFr, ih (by omega), adds_ne (L := L) (k := k) (i := m) (by omega)]
  have high : ∀ m, k + 1 ≤ m → m ≤ ops.size → cFr ops (adds L k) f0 vs m = upd (cFr ops L f0 vs m) ok.dst (vs k) := by
    intro m hm
    induction m, hm using le_ind with
    | base => intro _; rw [cFr_in hk.1 adds_eq, cFr_out hk.2.1, low k (Nat.le_refl _)]
    | succ m hm ih =>
      intro hms
      obtain ⟨om, hom⟩ := op_at (ops := ops) (i := m) (n := ops.size) (by omega) (Nat.le_refl _)
      have hne : m ≠ k := by omega
      cases hLm : L m with
      | false => rw [cFr_out (by rw [adds_ne hne]; exact hLm), cFr_out hLm, ih (by omega)]
      | true =>
        rw [cFr_in hom (by rw [adds_ne hne]; exact hLm), cFr_in hom hLm, ih (by omega)]
        have hap := (apartT_spec (D.upper hL hk hom (by omega) hLm).1).1
        funext t
        cases hd : ok.dst with
        | none => rfl
        | some d =>
          have hd2 := (hap d hd).2
          cases he : om.dst with
          | none => rfl
          | some e =>
            have : e ≠ d := fun q => hd2 (by rw [he, q])
            simp only [upd]
            by_cases h1 : t = e
            · subst h1; simp [this]
            · simp [h1]
  exact high _ (by omega) (Nat.le_refl _)

theorem chgO_at {pl : FuncId → Bool} {i : Nat} {o : Oper} (h : ops[i]? = some o) : chgO pl ops i = (match effO pl o with | .a | .w => true | _ => false) := by unfold chgO; rw [h] <;> rfl

theorem keeps (tr : ∀ (i : Nat) (o : Oper), ops[i]? = some o → TrOk E ops fs ss vs wt i o) {i : Nat} (hi : i < ops.size) (hc : chgO E.pl ops i = false) : ss (i + 1) = ss i := by
  obtain ⟨o, ho⟩ := op_at hi (Nat.le_refl _)
  obtain ⟨_, _, h1, h2⟩ := tr i o ho
  rw [chgO_at ho] at hc
  cases hw : wt i with
  | false => exact (h2 hw).2
  | true =>
    have s := h1 hw
    cases he : effO E.pl o with
    | n => exact (stepR_n he s).1
    | r => exact (stepR_r he s).1
    | a => rw [he] at hc; cases hc
    | w => rw [he] at hc; cases hc

theorem cSt_eq (tr : ∀ (i : Nat) (o : Oper), ops[i]? = some o → TrOk E ops fs ss vs wt i o) {L : Nat → Bool} {m : Nat} (hm : m ≤ ops.size) (h : ∀ i, i < m → chgO E.pl ops i = true → L i = true) :
    ∀ i, i ≤ m → cSt L (ss 0) ss (chgO E.pl ops) i = ss i := by
  intro i
  induction i with
  | zero => intro _; rfl
  | succ i ih =>
    intro hi
    simp only [cSt]
    cases hc : chgO E.pl ops i with
    | true => simp [h i (by omega) hc]
    | false => simp [ih (by omega), keeps tr (i := i) (by omega) hc]

theorem effPair_chg {x y : Eff} (hx : x = .a ∨ x = .w) (hy : y ≠ .n) : effPair x y = false := by
  rcases hx with rfl | rfl <;> cases y <;> simp_all [effPair]

theorem chg_cases {pl : FuncId → Bool} {i : Nat} {o : Oper} (ho : ops[i]? = some o) (h : chgO pl ops i = true) : effO pl o = .a ∨ effO pl o = .w := by
  rw [chgO_at ho] at h
  cases he : effO pl o <;> rw [he] at h <;> simp_all

/-- The store that an operation that may come up finds. -/
theorem cSt_low (D : DrawFacts E.pl ops B) (tr : ∀ (i : Nat) (o : Oper), ops[i]? = some o → TrOk E ops fs ss vs wt i o) {L : Nat → Bool} (hL : Closed ops L) {k : Nat} {ok : Oper} (hk : Ready ops L k ok) (hn : effO E.pl ok ≠ .n) :
    ∀ i, i ≤ k → cSt L (ss 0) ss (chgO E.pl ops) i = ss i := by
  have hks : k < ops.size := (Array.getElem?_eq_some_iff.1 hk.1).1
  refine cSt_eq tr (by omega) fun i hi hc => ?_
  obtain ⟨oi, hoi⟩ := op_at (ops := ops) (i := i) (n := ops.size) (by omega) (Nat.le_refl _)
  cases hLi : L i with
  | true => rfl
  | false =>
    have := (D.lower hL hk hoi hi hLi).2
    rw [effPair_chg (chg_cases hoi hc) hn] at this
    cases this

theorem cSt_chg (D : DrawFacts E.pl ops B) (tr : ∀ (i : Nat) (o : Oper), ops[i]? = some o → TrOk E ops fs ss vs wt i o) {L : Nat → Bool} (hL : Closed ops L) {k : Nat} {ok : Oper} (hk : Ready ops L k ok) (hc : chgO E.pl ops k = true) :
    cSt L (ss 0) ss (chgO E.pl ops) ops.size = ss k ∧ cSt (adds L k) (ss 0) ss (chgO E.pl ops) ops.size = ss (k + 1) := by
  have hks : k < ops.size := (Array.getElem?_eq_some_iff.1 hk.1).1
  have hek := chg_cases hk.1 hc
  have hn : effO E.pl ok ≠ .n := by rcases hek with q | q <;> rw [q] <;> simp
  have low := cSt_low D tr hL hk hn
  have no : ∀ m, k < m → m < ops.size → (L m && chgO E.pl ops m) = false := by
    intro m hm hms
    obtain ⟨om, hom⟩ := op_at (ops := ops) (i := m) (n := ops.size) hms (Nat.le_refl _)
    cases hLm : L m with
    | false => rfl
    | true =>
      cases hcm : chgO E.pl ops m with
      | false => rfl
      | true =>
        have := (D.upper hL hk hom hm hLm).2
        rw [effPair_chg hek (by rcases chg_cases hom hcm with q | q <;> rw [q] <;> simp)] at this
        cases this
  have h1 : ∀ m, k + 1 ≤ m → m ≤ ops.size → cSt L (ss 0) ss (chgO E.pl ops) m = ss k := by
    intro m hm
    induction m, hm using le_ind with
    | base => intro _; simp [cSt, hk.2.1, low k (Nat.le_refl _)]
    | succ m hm ih => intro hms; simp only [cSt, no m (by omega) (by omega)]; exact ih (by omega)
  have h2 : ∀ m, k + 1 ≤ m → m ≤ ops.size → cSt (adds L k) (ss 0) ss (chgO E.pl ops) m = ss (k + 1) := by
    intro m hm
    induction m, hm using le_ind with
    | base => intro _; simp [cSt, adds_eq, hc]
    | succ m hm ih => intro hms; simp only [cSt, adds_ne (L := L) (k := k) (i := m) (by omega), no m (by omega) (by omega)]; exact ih (by omega)
  exact ⟨h1 _ (by omega) (Nat.le_refl _), h2 _ (by omega) (Nat.le_refl _)⟩

theorem cSt_calm {L : Nat → Bool} {k : Nat} (hc : chgO E.pl ops k = false) (s0 : Store) : ∀ m, cSt (adds L k) s0 ss (chgO E.pl ops) m = cSt L s0 ss (chgO E.pl ops) m := by
  intro m
  induction m with
  | zero => rfl
  | succ m ih =>
    simp only [cSt, ih]
    by_cases e : m = k
    · subst e; simp [hc]
    · rw [adds_ne e]

theorem cSt_read (D : DrawFacts E.pl ops B) (tr : ∀ (i : Nat) (o : Oper), ops[i]? = some o → TrOk E ops fs ss vs wt i o) {L : Nat → Bool} (hL : Closed ops L) {k : Nat} {ok : Oper} (hk : Ready ops L k ok) (hr : effO E.pl ok = .r) :
    ∃ x, cSt L (ss 0) ss (chgO E.pl ops) ops.size = ss k ++ x := by
  have hks : k < ops.size := (Array.getElem?_eq_some_iff.1 hk.1).1
  have low := cSt_low D tr hL hk (by rw [hr]; simp)
  have high : ∀ m, k ≤ m → m ≤ ops.size → ∃ x, cSt L (ss 0) ss (chgO E.pl ops) m = ss k ++ x := by
    intro m hm
    induction m, hm using le_ind with
    | base => intro _; exact ⟨[], by rw [low k (Nat.le_refl _), List.append_nil]⟩
    | succ m hm ih =>
      intro hms
      obtain ⟨x, ih⟩ := ih (by omega)
      obtain ⟨om, hom⟩ := op_at (ops := ops) (i := m) (n := ops.size) (by omega) (Nat.le_refl _)
      simp only [cSt]
      cases hLm : L m with
      | false => exact ⟨x, by simpa using ih⟩
      | true =>
        cases hcm : chgO E.pl ops m with
        | false => exact ⟨x, by simpa using ih⟩
        | true =>
          have hlt : k < m := by
            rcases Nat.lt_or_ge k m with q | q
            · exact q
            · have : k = m := by omega
              subst this; rw [hk.2.1] at hLm; cases hLm
          have hp := (D.upper hL hk hom hlt hLm).2
          have ha : effO E.pl om = .a := by
            rw [hr] at hp
            rcases chg_cases hom hcm with q | q
            · exact q
            · rw [q] at hp; cases hp
          have hsm : cSt L (ss 0) ss (chgO E.pl ops) m = ss m := by
            refine cSt_eq tr (m := m) (by omega) (fun i hi hc => ?_) m (Nat.le_refl _)
            obtain ⟨oi, hoi⟩ := op_at (ops := ops) (i := i) (n := ops.size) (by omega) (Nat.le_refl _)
            cases hLi : L i with
            | true => rfl
            | false =>
              have := (D.under hL hom hLm hoi hi hLi).2
              rw [effPair_chg (chg_cases hoi hc) (by rw [ha]; simp)] at this
              cases this
          obtain ⟨_, _, h1, h2⟩ := tr m om hom
          simp only [Bool.and_self, if_true]
          rw [ih] at hsm
          cases hw : wt m with
          | false => rw [(h2 hw).2, ← hsm]; exact ⟨x, rfl⟩
          | true =>
            obtain ⟨y, hy⟩ := stepR_a ha (h1 hw)
            rw [hy, ← hsm]; exact ⟨x ++ y, by simp⟩
  exact high _ (by omega) (Nat.le_refl _)

end
end Go.Pv
end
section
namespace Go.Pv

theorem FrRel.put {K ι st fr} {a : Act} {d : Option Nat} {p : PV} {v : Value} (h : FrRel K ι st fr a.tmps) (hv : VRel K ι st p v) : FrRel K ι st (upd fr d p) (a.put d v).tmps := by
  intro t u hu
  cases d with
  | none => exact h t u hu
  | some d =>
    simp only [Act.put] at hu
    simp only [upd]
    by_cases e : t = d
    · subst e
      have hlt : t < a.tmps.size := by simpa using (Array.getElem?_eq_some_iff.1 hu).1
      rw [Array.getElem?_setIfInBounds_self_of_lt hlt] at hu
      cases hu
      rw [if_pos rfl]
      exact hv
    · rw [Array.getElem?_setIfInBounds_ne (fun q => e q.symm)] at hu
      rw [if_neg e]
      exact h t u hu
theorem put_size (a : Act) (d : Option Nat) (v : Value) : (a.put d v).tmps.size = a.tmps.size := by cases d <;> simp [Act.put]
theorem put_defers (a : Act) (d : Option Nat) (v : Value) : (a.put d v).defers = a.defers := by cases d <;> rfl
theorem FrRel.congr {K ι st fr fr' tm} (h : FrRel K ι st fr tm) (e : fr' = fr) : FrRel K ι st fr' tm := e ▸ h

theorem undef_rel (K ι st) : VRel K ι st (.tup []) undef := .tree _ _ (.tup [] #[] rfl (by simp))
theorem tup_undef {K ι st} {v : Value} (h : VRel K ι st (.tup []) v) : v = undef := by
  obtain ⟨vs, rfl, hl, _⟩ := h.tupV
  have : vs = #[] := by simpa using hl.symm
  subst this; rfl

/-- Every operand and every destination lies within the frame. -/
def regIn (N : Nat) (ops : Array Oper) : Bool := ops.all fun o => opIn N o.op && (match o.dst with | some d => decide (d < N) | none => true)
theorem regIn_at {N : Nat} {ops : Array Oper} (h : regIn N ops = true) {i : Nat} {o : Oper} (ho : ops[i]? = some o) : opIn N o.op = true ∧ ∀ d, o.dst = some d → d < N := by
  unfold regIn at h
  rw [Array.all_eq_true_iff_forall_mem] at h
  have := h o (Array.mem_of_getElem? ho)
  simp only [Bool.and_eq_true] at this
  refine ⟨this.1, fun d hd => ?_⟩
  have h2 := this.2
  rw [hd] at h2
  simpa using h2

theorem guard_rel {ops : Array Oper} {K ι st fr} {a : Act} (hreg : regIn a.tmps.size ops = true) (hf : FrRel K ι st fr a.tmps) {o : Oper} {b : Bool} (h : guardF ops fr o = some b) : Region.wanted o (yielded ops a.tmps) = b := by
  unfold guardF at h
  unfold Region.wanted
  split at h
  · rename_i e; rw [e]; simp at h; simp [h]
  · rename_i j c e
    rw [e]
    simp only
    split at h
    · rename_i hd
      cases h
      simp [yielded, hd]
    · rename_i t hd
      cases ht : a.tmps[t]? with
      | none =>
        obtain ⟨oj, hoj, hod⟩ := Option.bind_eq_some_iff.1 hd
        have := (regIn_at hreg hoj).2 t hod
        rw [Array.getElem?_eq_getElem this] at ht
        cases ht
      | some v =>
        have hv := hf t v ht
        split at h
        · rename_i x hx
          rw [hx] at hv
          cases h
          have := hv.boolV
          subst this
          have : yielded ops a.tmps j = some x := by simp [yielded, hd, ht]
          rw [this]
          cases x <;> cases c <;> rfl
        · rename_i hx
          rw [hx] at hv
          cases h
          have := tup_undef hv
          subst this
          have : yielded ops a.tmps j = none := by simp [yielded, hd, ht, undef]
          rw [this]
          rfl
        · cases h


/-- An operation, a range's step among them, carried over. -/
theorem stepW_sound {E : Env} (hE : EnvOk E) {F : Fence} (hF : FenceOk F) {n : Nat} {K ι st w fr} {a : Act} (h : Rel E.G K ι st w) (hf : FrRel K ι st fr a.tmps) {o : Oper} (hin : opIn a.tmps.size o.op = true) {k : PV → Store → Prop}
    (ho : StepW E fr st o k) {next : Act → World → Prop} {Q : Exit → Act → World → Prop}
    (hk : ∀ (v : PV) (st' : Store) (K' : Know) (ι' : Nat → Value) (w' : World) (rv : Value), k v st' → Stp E.G K ι st w K' ι' st' w' → VRel K' ι' st' v rv → next (a.put o.dst rv) w') : o.wpIn F n E.P a w next Q := by
  unfold StepW at ho
  split at ho
  · rename_i hx
    obtain ⟨dst, op, ty, pos, after, guard⟩ := o
    have nil : ∀ (bop : BinOp) (t : TypeId) (x : Operand) (ty2 : TypeId), bop = .eql ∨ bop = .neq → op = .binOp bop t x (.const (.slice none 0 0)) ty2 → (∃ e, E.P.underlying t = some (.slice e)) → NilW (decide (bop = .neq)) (evalO E fr x) st k → Oper.wpIn F n E.P ⟨dst, op, ty, pos, after, guard⟩ a w next Q := by
      intro bop t x ty2 hb he ⟨e, hu⟩ hW
      subst he
      have hx := evalO_rel h hf x (opIn_mem hin (by simp [Op.operands]))
      obtain ⟨A, m, c, ea, hkv⟩ := nilW_pick hx hW
      obtain ⟨K', ι', w', rv, e1, s, r⟩ := nil_sound (E := E) h hb (t := t) hu (A := A) (n := m) (c := c) x (.const (.slice none 0 0))
      refine ⟨fun f _ => hF.fn f, ?_⟩
      rw [Oper.semAt_eq _ _ _ (by intro c e; cases e)]
      have ey : a.eval (.const (.slice none 0 0)) = .slice none 0 0 := rfl
      have e2 : (execOp a.eval ⟨dst, .binOp bop t x (.const (.slice none 0 0)) ty2, ty, pos, after, guard⟩).run E.P w = .ok (.value rv) w' := by
        have : execOp a.eval ⟨dst, .binOp bop t x (.const (.slice none 0 0)) ty2, ty, pos, after, guard⟩ = (do pure (Next.value (← (do eqGuard bop t x (.const (.slice none 0 0)) (a.eval x) (a.eval (.const (.slice none 0 0))); binOp bop t (a.eval x) (a.eval (.const (.slice none 0 0))) : Sem Value))) : Sem Next) := rfl
        rw [this, ea, ey, Sem.run_bind, e1]
        rfl
      rw [e2]
      exact hk _ st K' ι' w' rv hkv s r
    cases op <;> try (cases hx; done)
    case next x s =>
      cases s with
      | true => exact ho.elim
      | false =>
        have hx := evalO_rel h hf x (opIn_mem hin (by simp [Op.operands]))
        obtain ⟨v, st', hkv, K', ι', w', rv, e, s, r⟩ := next_sound (t := ty) h hx ho
        refine ⟨fun f _ => hF.fn f, ?_⟩
        rw [Oper.semAt_eq _ _ _ (by intro c e; cases e)]
        have e1 : (execOp a.eval ⟨dst, .next x false, ty, pos, after, guard⟩).run E.P w = .ok (.value rv) w' := by
          simp only [execOp, Sem.run_bind, e, Result.andThen_ok, Sem.run_pure]
        rw [e1]
        exact hk v st' K' ι' w' rv hkv s r
    case binOp bop t x y ty2 =>
      have hy : y = .const (.slice none 0 0) ∧ (bop = .eql ∨ bop = .neq) := by
        unfold isNext at hx
        split at hx
        · rename_i e; cases e
        · rename_i e; injection e with e1 e2 e3 e4 e5; subst e1 e4; exact ⟨rfl, .inl rfl⟩
        · rename_i e; injection e with e1 e2 e3 e4 e5; subst e1 e4; exact ⟨rfl, .inr rfl⟩
        · cases hx
      obtain ⟨rfl, hb⟩ := hy
      rcases hb with rfl | rfl
      · exact nil .eql t x ty2 (.inl rfl) rfl (ho.1.under hE) ho.2
      · exact nil .neq t x ty2 (.inr rfl) rfl (ho.1.under hE) ho.2
  · obtain ⟨v, st', hs, hkv⟩ := ho
    exact stepR_sound hE hF h hf hin hs fun K' ι' w' rv s r => hk v st' K' ι' w' rv hkv s r

/-- **A region in the order of the text.** -/
theorem opsW_list {E : Env} (hE : EnvOk E) {F : Fence} (hF : FenceOk F) {n : Nat} {ops : Array Oper} {Q : Exit → Act → World → Prop} {KK : Fr → Store → Prop} {K0 : Know} {ι0 : Nat → Value} {st0 : Store} {w0 : World} {N : Nat} {df : List Deferred}
    (hreg : regIn N ops = true)
    (hQ : ∀ (K : Know) (ι : Nat → Value) (st : Store) (fr : Fr) (a : Act) (w : World), KK fr st → Stp E.G K0 ι0 st0 w0 K ι st w → FrRel K ι st fr a.tmps → a.tmps.size = N → a.defers = df → Q .normal a w) :
    ∀ (l : List Oper), (∀ o ∈ l, ∃ i : Nat, ops[i]? = some o) → ∀ (K : Know) (ι : Nat → Value) (st : Store) (fr : Fr) (a : Act) (w : World), Stp E.G K0 ι0 st0 w0 K ι st w → FrRel K ι st fr a.tmps → a.tmps.size = N → a.defers = df → OpsW E ops l fr st KK → wpListIn F n E.P ops Q l a w
  | [], _, K, ι, st, fr, a, w, hs, hf, hn, hd, h => hQ K ι st fr a w h hs hf hn hd
  | o :: rest, hl, K, ι, st, fr, a, w, hs, hf, hn, hd, h => by
    obtain ⟨i, hi⟩ := hl o (by simp)
    have hin := regIn_at hreg hi
    unfold OpsW at h
    unfold wpListIn
    have h : (guardF ops fr o = some true ∧ StepW E fr st o fun v st' => OpsW E ops rest (upd fr o.dst v) st' KK) ∨ (guardF ops fr o = some false ∧ OpsW E ops rest (upd fr o.dst (.tup [])) st KK) := by
      split at h
      · rename_i g hg
        cases g with
        | true => exact .inl ⟨hg, h.1 rfl⟩
        | false => exact .inr ⟨hg, h.2 rfl⟩
      · exact h.elim
    rcases h with ⟨hg, h⟩ | ⟨hg, h⟩
    · rw [if_pos (guard_rel (by rw [hn]; exact hreg) hf hg)]
      refine stepW_sound hE hF hs.rel hf (by rw [hn]; exact hin.1) h (fun v st' K' ι' w' rv h s r => ?_)
      exact opsW_list hE hF hreg hQ rest (fun x hx => hl x (by simp [hx])) K' ι' st' _ _ w' (hs.trans s) ((hf.mono s.ext).put r) (by rw [put_size]; exact hn) (by rw [put_defers]; exact hd) h
    · rw [if_neg (by rw [guard_rel (by rw [hn]; exact hreg) hf hg]; simp)]
      refine ⟨fun f _ => hF.fn f, ?_⟩
      exact opsW_list hE hF hreg hQ rest (fun x hx => hl x (by simp [hx])) K ι st _ _ w hs (hf.put (undef_rel K ι st)) (by rw [put_size]; exact hn) (by rw [put_defers]; exact hd) h

theorem guardF_congr {ops : Array Oper} {fr fr' : Fr} {o : Oper} (h : ∀ t ∈ tmpsOf ops o, fr' t = fr t) : guardF ops fr' o = guardF ops fr o := by
  unfold guardF
  cases hg : o.guard with
  | none => rfl
  | some q =>
    obtain ⟨j, b⟩ := q
    simp only
    cases hd : (ops[j]?).bind (·.dst) with
    | none => rfl
    | some t => simp only; rw [h t (by simp [tmpsOf, Oper.looksAt, hg, hd])]

theorem tmps_ops {ops : Array Oper} {o : Oper} {t : Nat} (h : Operand.tmp t ∈ o.op.operands) : t ∈ tmpsOf ops o := by
  unfold tmpsOf Oper.looksAt
  exact List.mem_append_left _ (List.mem_filterMap.2 ⟨.tmp t, by simpa using h, rfl⟩)

def Lof (listed : Array Bool) : Nat → Bool := fun i => listed.getD i false
def unl (ops : Array Oper) (listed : Array Bool) : Nat := (List.range ops.size).countP fun i => !Lof listed i

theorem countP_lt {α : Type} {p q : α → Bool} : ∀ (l : List α), (∀ x ∈ l, q x = true → p x = true) → ∀ x0 ∈ l, p x0 = true → q x0 = false → l.countP q < l.countP p
  | [], _, x0, h, _, _ => by simp at h
  | y :: l, hpq, x0, h, h1, h2 => by
    have mono : l.countP q ≤ l.countP p := List.countP_mono_left fun x hx => hpq x (by simp [hx])
    rw [List.countP_cons, List.countP_cons]
    rcases List.mem_cons.1 h with rfl | h
    · rw [h1, h2]; simp; omega
    · have ih := countP_lt l (fun x hx => hpq x (by simp [hx])) x0 h h1 h2
      cases hq : q y with
      | false => simp; split <;> omega
      | true => rw [hpq y (by simp) hq]; simp; omega

theorem Lof_set {listed : Array Bool} {i : Nat} (h : i < listed.size) : Lof (listed.setIfInBounds i true) = adds (Lof listed) i := by
  funext j
  unfold Lof adds
  by_cases e : j = i
  · subst e; simp [Array.getD_eq_getD_getElem?, h]
  · simp [Array.getD_eq_getD_getElem?, e, Array.getElem?_setIfInBounds_ne (fun q => e q.symm)]

end Go.Pv
end
section
namespace Go.Pv

theorem ready_spec {ops : Array Oper} {listed : Array Bool} (hs : listed.size = ops.size) {i : Nat} (h : i ∈ Region.ready .any ops listed) (D : ∀ (j : Nat) (oj : Oper), ops[j]? = some oj → ∀ e ∈ oj.after, Region.binds .any e = true → e.on < j) :
    ∃ o, Ready ops (Lof listed) i o := by
  unfold Region.ready at h
  rw [List.mem_filter] at h
  obtain ⟨h1, h2⟩ := h
  have hi : i < ops.size := by simpa using h1
  have ho : ops[i]? = some ops[i] := Array.getElem?_eq_getElem hi
  rw [ho] at h2
  simp only [Bool.and_eq_true, Option.map_some, Option.getD_some] at h2
  obtain ⟨h2, h3⟩ := h2
  rw [Array.all_eq_true_iff_forall_mem] at h3
  refine ⟨_, ho, ?_, fun e he hb => ?_⟩
  · have : listed.getD i true = listed.getD i false := by simp [Array.getD_eq_getD_getElem?, show i < listed.size by omega]
    unfold Lof
    rw [← this]; simpa using h2
  · have := h3 e he
    simpa [hb, Lof] using this

theorem ready_mem {ops : Array Oper} {listed : Array Bool} (hs : listed.size = ops.size) {i : Nat} {o : Oper} (h : Ready ops (Lof listed) i o) : i ∈ Region.ready .any ops listed := by
  unfold Region.ready
  obtain ⟨h1, h2, h3⟩ := h
  have hi : i < ops.size := (Array.getElem?_eq_some_iff.1 h1).1
  rw [List.mem_filter]
  refine ⟨by simpa using hi, ?_⟩
  rw [h1]
  simp only [Bool.and_eq_true, Option.map_some, Option.getD_some]
  refine ⟨?_, ?_⟩
  · have : listed.getD i true = listed.getD i false := by simp [Array.getD_eq_getD_getElem?, show i < listed.size by omega]
    rw [this]
    unfold Lof at h2; rw [h2]; rfl
  · rw [Array.all_eq_true_iff_forall_mem]
    intro e he
    cases hb : Region.binds .any e with
    | false => rfl
    | true => simpa [hb, Lof] using h3 e he hb

/-- Where something is left, something may come up. -/
theorem ready_ex {ops : Array Oper} {L : Nat → Bool} (D : ∀ (j : Nat) (oj : Oper), ops[j]? = some oj → ∀ e ∈ oj.after, Region.binds .any e = true → e.on < j) :
    ∀ i, i < ops.size → L i = false → ∃ k o, Ready ops L k o := by
  intro i
  induction i using Nat.strongRecOn with
  | _ i ih =>
    intro hi hL
    have ho : ops[i]? = some ops[i] := Array.getElem?_eq_getElem hi
    by_cases h : ∀ e ∈ ops[i].after, Region.binds .any e = true → L e.on = true
    · exact ⟨i, _, ho, hL, h⟩
    · have : ∃ e, e ∈ ops[i].after ∧ Region.binds .any e = true ∧ L e.on = false := by
        refine Classical.byContradiction fun hn => h fun e he hb => ?_
        cases hq : L e.on with
        | true => rfl
        | false => exact absurd ⟨e, he, hb, hq⟩ hn
      obtain ⟨e, he, hb, hq⟩ := this
      have hlt := D i _ ho e he hb
      exact ih e.on hlt (by omega) hq

theorem cFr_full {ops : Array Oper} {fs : Nat → Fr} {ss : Nat → Store} {vs : Nat → PV} {wt : Nat → Bool} {E : Env} (tr : ∀ (i : Nat) (o : Oper), ops[i]? = some o → TrOk E ops fs ss vs wt i o) {L : Nat → Bool} (hL : ∀ i, i < ops.size → L i = true) :
    ∀ m, m ≤ ops.size → cFr ops L (fs 0) vs m = fs m := by
  intro m
  induction m with
  | zero => intro _; rfl
  | succ m ih =>
    intro hm
    obtain ⟨o, ho⟩ := op_at (ops := ops) (i := m) (n := ops.size) (by omega) (Nat.le_refl _)
    rw [cFr_in ho (hL m (by omega)), ih (by omega), (tr m o ho).2.1]

theorem cFr_empty {ops : Array Oper} {L : Nat → Bool} {f0 : Fr} {vs : Nat → PV} (hL : ∀ i, L i = false) : ∀ m, cFr ops L f0 vs m = f0 := by
  intro m
  induction m with
  | zero => rfl
  | succ m ih => rw [cFr_out (hL m), ih]
theorem cSt_empty {L : Nat → Bool} {s0 : Store} {ss : Nat → Store} {chg : Nat → Bool} (hL : ∀ i, L i = false) : ∀ m, cSt L s0 ss chg m = s0 := by
  intro m
  induction m with
  | zero => rfl
  | succ m ih => simp [cSt, hL m, ih]

theorem any_sound {E : Env} (hE : EnvOk E) {F : Fence} (hF : FenceOk F) {n : Nat} {ops : Array Oper} {B : List Nat} (D : DrawFacts E.pl ops B) {fs : Nat → Fr} {ss : Nat → Store} {vs : Nat → PV} {wt : Nat → Bool}
    (tr : ∀ (i : Nat) (o : Oper), ops[i]? = some o → TrOk E ops fs ss vs wt i o) {Q : Exit → Act → World → Prop} {K0 : Know} {ι0 : Nat → Value} {w0 : World} {N : Nat} {df : List Deferred} (hreg : regIn N ops = true)
    (hQ : ∀ (K : Know) (ι : Nat → Value) (a : Act) (w : World), Stp E.G K0 ι0 (ss 0) w0 K ι (ss ops.size) w → FrRel K ι (ss ops.size) (fs ops.size) a.tmps → a.tmps.size = N → a.defers = df → Q .normal a w) :
    ∀ (fuel : Nat) (listed : Array Bool) (K : Know) (ι : Nat → Value) (a : Act) (w : World), listed.size = ops.size → Closed ops (Lof listed) → unl ops listed ≤ fuel →
      Stp E.G K0 ι0 (ss 0) w0 K ι (cSt (Lof listed) (ss 0) ss (chgO E.pl ops) ops.size) w → FrRel K ι (cSt (Lof listed) (ss 0) ss (chgO E.pl ops) ops.size) (cFr ops (Lof listed) (fs 0) vs ops.size) a.tmps → a.tmps.size = N → a.defers = df →
      wpAnyIn F n E.P .any ops Q fuel listed a w := by
  have full : ∀ (listed : Array Bool) (K : Know) (ι : Nat → Value) (a : Act) (w : World), (∀ i, i < ops.size → Lof listed i = true) →
      Stp E.G K0 ι0 (ss 0) w0 K ι (cSt (Lof listed) (ss 0) ss (chgO E.pl ops) ops.size) w → FrRel K ι (cSt (Lof listed) (ss 0) ss (chgO E.pl ops) ops.size) (cFr ops (Lof listed) (fs 0) vs ops.size) a.tmps → a.tmps.size = N → a.defers = df → Q .normal a w := by
    intro listed K ι a w hall hs hf hn hd
    rw [cSt_eq tr (Nat.le_refl _) (fun i hi _ => hall i hi) _ (Nat.le_refl _)] at hs hf
    rw [cFr_full tr hall _ (Nat.le_refl _)] at hf
    exact hQ K ι a w hs hf hn hd
  have done : ∀ (listed : Array Bool), listed.size = ops.size → Region.ready .any ops listed = [] → ∀ i, i < ops.size → Lof listed i = true := by
    intro listed hls hr i hi
    cases hL : Lof listed i with
    | true => rfl
    | false =>
      obtain ⟨k, o, hk⟩ := ready_ex D.edge i hi hL
      have := ready_mem hls hk
      rw [hr] at this
      cases this
  intro fuel
  induction fuel with
  | zero =>
    intro listed K ι a w hls hcl hu hs hf hn hd
    have hall : ∀ i, i < ops.size → Lof listed i = true := by
      intro i hi
      have h0 : unl ops listed = 0 := by omega
      unfold unl at h0
      rw [List.countP_eq_zero] at h0
      have := h0 i (by simpa using hi)
      simpa using this
    refine ⟨?_, full listed K ι a w hall hs hf hn hd⟩
    cases hr : Region.ready .any ops listed with
    | nil => rfl
    | cons i l =>
      obtain ⟨o, hk⟩ := ready_spec hls (i := i) (by rw [hr]; simp) D.edge
      have := hall i (Array.getElem?_eq_some_iff.1 hk.1).1
      rw [hk.2.1] at this
      cases this
  | succ fuel ih =>
    intro listed K ι a w hls hcl hu hs hf hn hd
    refine ⟨fun hr => full listed K ι a w (done listed hls hr) hs hf hn hd, fun i hi => ?_⟩
    obtain ⟨o, hk⟩ := ready_spec hls hi D.edge
    have his : i < ops.size := (Array.getElem?_eq_some_iff.1 hk.1).1
    have hset := Lof_set (listed := listed) (i := i) (by omega)
    have hcl' : Closed ops (Lof (listed.setIfInBounds i true)) := by
      rw [hset]
      intro j oj hj hLj e he hb
      by_cases e1 : j = i
      · subst e1
        rw [hk.1] at hj; cases hj
        have := hk.2.2 e he hb
        simp [adds, this]
      · rw [adds_ne e1] at hLj
        simp [adds, hcl j oj hj hLj e he hb]
    have hu' : unl ops (listed.setIfInBounds i true) ≤ fuel := by
      have : unl ops (listed.setIfInBounds i true) < unl ops listed := by
        unfold unl
        rw [hset]
        refine countP_lt _ (fun x _ hx => ?_) i (by simpa using his) (by simp [hk.2.1]) (by simp [adds])
        simp [adds] at hx ⊢
        exact hx.2
      omega
    have hin := regIn_at hreg hk.1
    have hlook := fun t (ht : t ∈ tmpsOf ops o) => cFr_looks D tr hcl hk ht
    obtain ⟨t1, t2, t3, t4⟩ := tr i o hk.1
    have hgd : guardF ops (cFr ops (Lof listed) (fs 0) vs ops.size) o = some (wt i) := by rw [guardF_congr hlook]; exact t1
    unfold wpOpIn
    rw [hk.1]
    simp only
    have nextF : cFr ops (Lof (listed.setIfInBounds i true)) (fs 0) vs ops.size = upd (cFr ops (Lof listed) (fs 0) vs ops.size) o.dst (vs i) := by rw [hset]; exact cFr_adds D hcl hk (fs 0)
    cases hw : wt i with
    | false =>
      rw [hw] at hgd
      rw [if_neg (by rw [guard_rel (by rw [hn]; exact hreg) hf hgd]; simp)]
      refine ⟨fun f _ => hF.fn f, ?_⟩
      have hst : cSt (Lof (listed.setIfInBounds i true)) (ss 0) ss (chgO E.pl ops) ops.size = cSt (Lof listed) (ss 0) ss (chgO E.pl ops) ops.size := by
        rw [hset]
        cases hc : chgO E.pl ops i with
        | false => exact cSt_calm hc _ _
        | true => obtain ⟨a1, a2⟩ := cSt_chg D tr hcl hk hc; rw [a1, a2, (t4 hw).2]
      refine ih _ K ι _ w (by simpa using hls) hcl' hu' (by rw [hst]; exact hs) ?_ (by rw [put_size]; exact hn) (by rw [put_defers]; exact hd)
      rw [hst, nextF, (t4 hw).1]
      exact hf.put (undef_rel K ι _)
    | true =>
      rw [hw] at hgd
      rw [if_pos (guard_rel (by rw [hn]; exact hreg) hf hgd)]
      have hst : StepR E (cFr ops (Lof listed) (fs 0) vs ops.size) (cSt (Lof listed) (ss 0) ss (chgO E.pl ops) ops.size) o (vs i) (cSt (Lof (listed.setIfInBounds i true)) (ss 0) ss (chgO E.pl ops) ops.size) := by
        refine stepR_congr (fun t ht => hlook t (tmps_ops ht)) ?_
        have s := t3 hw
        rw [hset]
        cases he : effO E.pl o with
        | n =>
          have hc : chgO E.pl ops i = false := by rw [chgO_at hk.1, he]
          rw [cSt_calm hc]
          exact (stepR_n he s).2 _
        | r =>
          have hc : chgO E.pl ops i = false := by rw [chgO_at hk.1, he]
          rw [cSt_calm hc]
          obtain ⟨x, hx⟩ := cSt_read D tr hcl hk he
          rw [hx]
          exact (stepR_r he s).2 x
        | a =>
          have hc : chgO E.pl ops i = true := by rw [chgO_at hk.1, he]
          obtain ⟨a1, a2⟩ := cSt_chg D tr hcl hk hc
          rw [a1, a2]; exact s
        | w =>
          have hc : chgO E.pl ops i = true := by rw [chgO_at hk.1, he]
          obtain ⟨a1, a2⟩ := cSt_chg D tr hcl hk hc
          rw [a1, a2]; exact s
      refine stepR_sound hE hF hs.rel hf (by rw [hn]; exact hin.1) hst (fun K' ι' w' rv s r => ?_)
      refine ih _ K' ι' _ w' (by simpa using hls) hcl' hu' (hs.trans s) ?_ (by rw [put_size]; exact hn) (by rw [put_defers]; exact hd)
      rw [nextF]
      exact (hf.mono s.ext).put r

/-- **A region that draws.** -/
theorem draw_sound {E : Env} (hE : EnvOk E) {F : Fence} (hF : FenceOk F) {n : Nat} {id : Nat} {ops : Array Oper} {B : List Nat} (hB : drawOk E.pl ops B = true) {KK : Fr → Store → Prop} {Q : Exit → Act → World → Prop} {N : Nat} (hreg : regIn N ops = true)
    {K : Know} {ι : Nat → Value} {st : Store} {fr : Fr} {a : Act} {w : World} (h : Rel E.G K ι st w) (hf : FrRel K ι st fr a.tmps) (hn : a.tmps.size = N) (hW : OpsW E ops ops.toList fr st KK)
    (hQ : ∀ (K' : Know) (ι' : Nat → Value) (st' : Store) (fr' : Fr) (a' : Act) (w' : World), KK fr' st' → Stp E.G K ι st w K' ι' st' w' → FrRel K' ι' st' fr' a'.tmps → a'.tmps.size = N → a'.defers = a.defers → Q .normal a' w') :
    (Code.region id ops true).wpIn F n E.P Q a w := by
  obtain ⟨fs, ss, vs, wt, rfl, rfl, tr, hK⟩ := OpsW.trace _ _ _ (fun o ho => by
    obtain ⟨i, hi⟩ := List.getElem?_of_mem ho
    exact (drawFacts hB).nonext i o (by simpa using hi)) hW
  have tr' : ∀ (i : Nat) (o : Oper), ops[i]? = some o → TrOk E ops fs ss vs wt i o := fun i o ho => tr i o (by simpa using ho)
  have hL : ∀ i, Lof (Array.replicate ops.size false) i = false := fun i => by
    unfold Lof
    rw [Array.getD_eq_getD_getElem?, Array.getElem?_replicate]
    split <;> rfl
  refine wpIn_region_any hE.mixed (any_sound hE hF (drawFacts hB) tr' (K0 := K) (ι0 := ι) (w0 := w) (df := a.defers) hreg (fun K' ι' a' w' s f q d => hQ K' ι' _ _ a' w' (by simpa using hK) s f q d) ops.size _ K ι a _ (by simp) (fun j oj _ hj => by rw [hL] at hj; cases hj) ?_ ?_ ?_ hn rfl)
  · unfold unl
    exact Nat.le_trans List.countP_le_length (by simp)
  · rw [cSt_empty hL]; exact Stp.drew h
  · rw [cSt_empty hL, cFr_empty hL]; exact hf


/-- What a region that draws comes to, whatever is ready being taken next. -/
def AnyW (E : Env) (ops : Array Oper) (KK : Fr → Store → Prop) : Nat → Array Bool → Fr → Store → Prop
  | 0, listed, fr, st => Region.ready .any ops listed = [] ∧ KK fr st
  | f + 1, listed, fr, st => (Region.ready .any ops listed = [] → KK fr st) ∧ ∀ i ∈ Region.ready .any ops listed, ∃ o, ops[i]? = some o ∧
      match guardF ops fr o with
      | some g => Br g (StepW E fr st o fun v st' => AnyW E ops KK f (listed.setIfInBounds i true) (upd fr o.dst v) st') (AnyW E ops KK f (listed.setIfInBounds i true) (upd fr o.dst (.tup [])) st)
      | none => False
theorem AnyW.mono {E : Env} {ops : Array Oper} {KK KK' : Fr → Store → Prop} (hk : ∀ fr st, KK fr st → KK' fr st) : ∀ (f : Nat) (listed : Array Bool) (fr : Fr) (st : Store), AnyW E ops KK f listed fr st → AnyW E ops KK' f listed fr st
  | 0, _, _, _, h => ⟨h.1, hk _ _ h.2⟩
  | f + 1, listed, fr, st, h => by
    refine ⟨fun e => hk _ _ (h.1 e), fun i hi => ?_⟩
    obtain ⟨o, ho, q⟩ := h.2 i hi
    refine ⟨o, ho, ?_⟩
    split at q
    · exact Br.mk (fun hg => (q.1 hg).mono fun v st' b => AnyW.mono hk f _ _ _ b) (fun hg => AnyW.mono hk f _ _ _ (q.2 hg))
    · exact q.elim

/-- **A region that draws, each order being looked at.** -/
theorem anyW_sound {E : Env} (hE : EnvOk E) {F : Fence} (hF : FenceOk F) {n : Nat} {ops : Array Oper} {KK : Fr → Store → Prop} {Q : Exit → Act → World → Prop} {N : Nat} (hreg : regIn N ops = true) {K0 : Know} {ι0 : Nat → Value} {st0 : Store} {w0 : World} {df : List Deferred}
    (hQ : ∀ (K' : Know) (ι' : Nat → Value) (st' : Store) (fr' : Fr) (a' : Act) (w' : World), KK fr' st' → Stp E.G K0 ι0 st0 w0 K' ι' st' w' → FrRel K' ι' st' fr' a'.tmps → a'.tmps.size = N → a'.defers = df → Q .normal a' w') :
    ∀ (f : Nat) (listed : Array Bool) (K : Know) (ι : Nat → Value) (st : Store) (fr : Fr) (a : Act) (w : World), Stp E.G K0 ι0 st0 w0 K ι st w → FrRel K ι st fr a.tmps → a.tmps.size = N → a.defers = df → AnyW E ops KK f listed fr st → wpAnyIn F n E.P .any ops Q f listed a w
  | 0, listed, K, ι, st, fr, a, w, hs, hf, hn, hd, h => ⟨h.1, hQ K ι st fr a w h.2 hs hf hn hd⟩
  | f + 1, listed, K, ι, st, fr, a, w, hs, hf, hn, hd, h => by
    refine ⟨fun e => hQ K ι st fr a w (h.1 e) hs hf hn hd, fun i hi => ?_⟩
    obtain ⟨o, ho, q⟩ := h.2 i hi
    have hin := regIn_at hreg ho
    unfold wpOpIn
    rw [ho]
    simp only
    split at q
    · rename_i g hg
      cases g with
      | true =>
        rw [if_pos (guard_rel (by rw [hn]; exact hreg) hf hg)]
        refine stepW_sound hE hF hs.rel hf (by rw [hn]; exact hin.1) (q.1 rfl) (fun v st' K' ι' w' rv h s r => ?_)
        exact anyW_sound hE hF hreg hQ f _ K' ι' st' _ _ w' (hs.trans s) ((hf.mono s.ext).put r) (by rw [put_size]; exact hn) (by rw [put_defers]; exact hd) h
      | false =>
        rw [if_neg (by rw [guard_rel (by rw [hn]; exact hreg) hf hg]; simp)]
        refine ⟨fun f _ => hF.fn f, ?_⟩
        exact anyW_sound hE hF hreg hQ f _ K ι st _ _ w hs (hf.put (undef_rel K ι _)) (by rw [put_size]; exact hn) (by rw [put_defers]; exact hd) (q.2 rfl)
    · exact q.elim

theorem any_region_sound {E : Env} (hE : EnvOk E) {F : Fence} (hF : FenceOk F) {n : Nat} {id : Nat} {ops : Array Oper} {KK : Fr → Store → Prop} {Q : Exit → Act → World → Prop} {N : Nat} (hreg : regIn N ops = true)
    {K : Know} {ι : Nat → Value} {st : Store} {fr : Fr} {a : Act} {w : World} (h : Rel E.G K ι st w) (hf : FrRel K ι st fr a.tmps) (hn : a.tmps.size = N) (hW : AnyW E ops KK ops.size (Array.replicate ops.size false) fr st)
    (hQ : ∀ (K' : Know) (ι' : Nat → Value) (st' : Store) (fr' : Fr) (a' : Act) (w' : World), KK fr' st' → Stp E.G K ι st w K' ι' st' w' → FrRel K' ι' st' fr' a'.tmps → a'.tmps.size = N → a'.defers = a.defers → Q .normal a' w') :
    (Code.region id ops true).wpIn F n E.P Q a w :=
  wpIn_region_any hE.mixed (anyW_sound hE hF hreg (df := a.defers) hQ ops.size _ K ι st fr a _ (Stp.drew h) hf hn rfl hW)
end Go.Pv
end
section
namespace Go.Pv

def LoopW (B : Fr → Store → (Exit → Fr → Store → Prop) → Prop) (Q : Exit → Fr → Store → Prop) : Nat → Fr → Store → Prop
  | 0, _, _ => False
  | n + 1, fr, st => B fr st fun e fr' st' => match e with
    | .normal => LoopW B Q n fr' st'
    | e => Q e fr' st'

def deadLoop : Ob := .loop (fun _ => .bad) [] .skip .skip 0 3 none

/-- A range over a function: the function is called with the loop's yield; what the rounds do is what their contract says. -/
def RangeW (E : Env) (N : Nat) (g : Operand) (ps : List Nat) (asg body : Code) (fr : Fr) (st : Store) (Q : Exit → Fr → Store → Prop) : Prop :=
  match evalO E fr g with
  | .fn f caps => ∃ v st1, Spec E f (.yld st.length :: caps) (st ++ [.loop fr ps asg body N 0 none]) v st1 ∧
    ∃ fr1 ps1 asg1 body1 nt1 s pd, st1[st.length]? = some (.loop fr1 ps1 asg1 body1 nt1 s pd) ∧ s < 2 ∧
      match pd with
      | none => Q .normal fr (st1.set st.length deadLoop)
      | some .ret => Q .ret fr (st1.set st.length deadLoop)
      | some (.exit i) => Q (.exit i) fr (st1.set st.length deadLoop)
      | _ => False
  | _ => False

/-- **What code comes to**, on plain values. -/
def W (E : Env) (N : Nat) : Code → Fr → Store → (Exit → Fr → Store → Prop) → Prop
  | .skip, fr, st, Q => Q .normal fr st
  | .region id ops draw, fr, st, Q => if (draw && E.xr id) = true then AnyW E ops (Q .normal) ops.size (Array.replicate ops.size false) fr st else OpsW E ops ops.toList fr st (Q .normal)
  | .seq a b, fr, st, Q => W E N a fr st fun e fr' st' => match e with
    | .normal => W E N b fr' st' Q
    | e => Q e fr' st'
  | .cond c x y, fr, st, Q => match evalO E fr c with
    | .bool b => Br b (W E N x fr st Q) (W E N y fr st Q)
    | _ => False
  | .block id b, fr, st, Q => W E N b fr st fun e fr' st' => match e with
    | .exit i => if i = id then Q .normal fr' st' else Q (.exit i) fr' st'
    | e => Q e fr' st'
  | .loop b, fr, st, Q => ∃ n, LoopW (fun fr st Q => W E N b fr st Q) Q n fr st
  | .exit i, fr, st, Q => Q (.exit i) fr st
  | .label _, fr, st, Q => Q .normal fr st
  | .ret, fr, st, Q => Q .ret fr st
  | .rangeFunc g ps asg body, fr, st, Q => RangeW E N g ps.toList asg body fr st Q
  | _, _, _, _ => False

theorem LoopW.mono {B : Fr → Store → (Exit → Fr → Store → Prop) → Prop} (hB : ∀ (Q Q' : Exit → Fr → Store → Prop), (∀ e fr st, Q e fr st → Q' e fr st) → ∀ fr st, B fr st Q → B fr st Q') {Q Q' : Exit → Fr → Store → Prop} (h : ∀ e fr st, Q e fr st → Q' e fr st) :
    ∀ n fr st, LoopW B Q n fr st → LoopW B Q' n fr st
  | 0, _, _, q => q
  | n + 1, fr, st, q => hB _ _ (fun e fr st r => by
      cases e <;> first | exact LoopW.mono hB h n _ _ r | exact h _ _ _ r) fr st q

theorem W.mono {E : Env} {N : Nat} : ∀ (c : Code) (Q Q' : Exit → Fr → Store → Prop), (∀ e fr st, Q e fr st → Q' e fr st) → ∀ fr st, W E N c fr st Q → W E N c fr st Q'
  | .skip, _, _, h, fr, st, q => h _ _ _ q
  | .region id ops draw, _, _, h, fr, st, q => by
    unfold W at q ⊢
    split at q
    · rename_i e; rw [if_pos e]; exact AnyW.mono (fun _ _ r => h _ _ _ r) _ _ _ _ q
    · rename_i e; rw [if_neg e]; exact OpsW.mono (fun _ _ r => h _ _ _ r) _ _ _ q
  | .seq a b, _, _, h, fr, st, q => W.mono a _ _ (fun e fr st r => by
      cases e <;> first | exact W.mono b _ _ h _ _ r | exact h _ _ _ r) fr st q
  | .cond c x y, _, _, h, fr, st, q => by
    unfold W at q ⊢
    split at q
    · exact Br.mk (fun e => W.mono x _ _ h _ _ (q.1 e)) (fun e => W.mono y _ _ h _ _ (q.2 e))
    · exact q.elim
  | .block id b, _, _, h, fr, st, q => W.mono b _ _ (fun e fr st r => by
      cases e <;> simp only at r ⊢ <;> first | exact h _ _ _ r | skip
      split at r
      · rename_i e; rw [if_pos e]; exact h _ _ _ r
      · rename_i e; rw [if_neg e]; exact h _ _ _ r) fr st q
  | .loop b, _, _, h, fr, st, q => let ⟨n, q⟩ := q; ⟨n, LoopW.mono (fun Q Q' h fr st r => W.mono b Q Q' h fr st r) h n fr st q⟩
  | .exit _, _, _, h, fr, st, q => h _ _ _ q
  | .label _, _, _, h, fr, st, q => h _ _ _ q
  | .ret, _, _, h, fr, st, q => h _ _ _ q
  | .rangeFunc g ps asg body, _, _, h, fr, st, q => by
    unfold W RangeW at q ⊢
    split at q
    · obtain ⟨v, st1, a1, fr1, ps1, asg1, body1, nt1, s, pd, a2, a3, a4⟩ := q
      refine ⟨v, st1, a1, fr1, ps1, asg1, body1, nt1, s, pd, a2, a3, ?_⟩
      split at a4
      · exact h _ _ _ a4
      · exact h _ _ _ a4
      · exact h _ _ _ a4
      · exact a4.elim
    · exact q.elim
  | .goto _, _, _, _, _, _, q => q.elim
  | .scope _, _, _, _, _, _, q => q.elim
  | .refuse _, _, _, _, _, _, q => q.elim

/-- What is looked at beforehand: operands and destinations within the frame; the regions that draw; ranges over functions only where they may stand. -/
def okC (pl : FuncId → Bool) (xr : Nat → Bool) (N : Nat) (rf : Bool) : Code → Bool
  | .region id ops draw => regIn N ops && (!draw || (xr id || drawOk pl ops (Region.before ops).toList))
  | .seq a b => okC pl xr N rf a && okC pl xr N rf b
  | .cond c x y => opdIn N c && (okC pl xr N rf x && okC pl xr N rf y)
  | .block _ b => okC pl xr N rf b
  | .loop b => okC pl xr N rf b
  | .rangeFunc g ps asg body => rf && (opdIn N g && (ps.all (decide <| · < N) && (okC pl xr N false asg && okC pl xr N false body)))
  | _ => true

/-- The marks among a frame's deferred calls: each for a block of its own, still open. -/
def Dfs (b0 : Nat) (w : World) (ds : List Deferred) : Prop :=
  ∃ rs : List Nat, ds = rs.map (fun r => { target := .collected r, args := #[] }) ∧ rs.Nodup ∧ ∀ r ∈ rs, b0 ≤ r ∧ w.heap[r]? = some (.deferred (some []))

theorem not_owned_deferred {G K ι st w} (h : Rel G K ι st w) {r : Nat} {x} (hr : w.heap[r]? = some (.deferred x)) : ¬ Owned ι st r := by
  rintro ⟨id, hid, hb⟩
  have q := h.obj id _ (List.getElem?_eq_getElem hid)
  cases ho : st[id] <;> rw [ho] at q
  · obtain ⟨b, arr, e, hh, hw, _⟩ := q
    rw [hh] at hb; cases hb; rw [hw] at hr; cases hr
  · obtain ⟨b, cap, arr, hh, hw, _⟩ := q
    rw [hh] at hb; cases hb; rw [hw] at hr; cases hr
  · obtain ⟨b, ents, clock, hh, hw, _⟩ := q
    rw [hh] at hb; cases hb; rw [hw] at hr; cases hr
  · obtain ⟨b, mb, hh, hw, _⟩ := q
    rw [hh] at hb; cases hb; rw [hw] at hr; cases hr
  · obtain ⟨b, l, hh, hw, _⟩ := q
    rw [hh] at hb; cases hb; rw [hw] at hr; cases hr

theorem Dfs.step {G K ι st w K' ι' st' w'} (h : Rel G K ι st w) (s : Stp G K ι st w K' ι' st' w') {b0 : Nat} {ds : List Deferred} (d : Dfs b0 w ds) : Dfs b0 w' ds := by
  obtain ⟨rs, e, nd, hr⟩ := d
  refine ⟨rs, e, nd, fun r hm => ⟨(hr r hm).1, ?_⟩⟩
  rw [s.block r (heap_lt (hr r hm).2) (not_owned_deferred h (hr r hm).2)]
  exact (hr r hm).2

/-- An object of no account is laid in memory. -/
theorem Stp.allocOther {G K ι st w} (h : Rel G K ι st w) (go : Go.Obj) : Stp G K ι st w K ι st (w.alloc go) := by
  have x : Ext K ι st K ι st := .refl _ _ _
  refine ⟨⟨fun a v e => ?_, h.glob, fun id o e => ?_, h.apart, h.gsz.keep fun b hlt _ _ => heap_alloc_old w go b hlt, h.gown⟩, x, rfl, rfl, rfl, by simp, fun b hlt _ => heap_alloc_old w go b hlt, fun b hb _ => hb, fun a v e => .inl e⟩
  · rw [World.cell?_alloc_lt w go a (h.know_lt e)]; exact h.know a v e
  · have hid := (List.getElem?_eq_some_iff.1 e).1
    exact (h.obj id o e).carry x (fun b hb => heap_alloc_old w go b (h.owned_lt ⟨id, hid, hb⟩)) (fun _ _ _ q => q)

end Go.Pv
end
section
namespace Go.Pv

/-- A loop's record turns. -/
theorem Stp.loopSet {G K ι st w} (h : Rel G K ι st w) (id : Nat) {fr ps asg body nt s pd} (hid : st[id]? = some (.loop fr ps asg body nt s pd)) {fr' ps' asg' body' nt' s' pd'} {b : Nat} {l l' : Loop} (hh : ι id = .pointer (some ⟨b, 0, none⟩)) (hw : w.heap[b]? = some (.loop l))
    (ho : Ext K ι st K ι (st.set id (.loop fr' ps' asg' body' nt' s' pd')) → loopIs K ι (st.set id (.loop fr' ps' asg' body' nt' s' pd')) fr' ps' asg' body' nt' s' pd' l') :
    Stp G K ι st w K ι (st.set id (.loop fr' ps' asg' body' nt' s' pd')) { w with heap := w.heap.setIfInBounds b (.loop l') } := by
  have key := Stp.setOb h id _ (.loop fr' ps' asg' body' nt' s' pd') hid (ι id) (by simp [Ob.le]) K (fun _ _ q => q) { w with heap := w.heap.setIfInBounds b (.loop l') } b b (by rw [hh]; rfl) (by rw [hh]; rfl) (.inl rfl) rfl rfl rfl (by simp)
    (fun k _ hk => heap_set_other w b k _ hk)
    (fun a v q => by
      have hc := h.know a v q
      by_cases hab : a.block = b
      · rw [World.cell?, hab, hw] at hc; simp at hc
      · rw [← hc]; exact World.cell?_of_block (w := w) (heap_set_other w b a.block _ hab))
    (fun a v q => .inl q) (fun x => by
      rw [ins_id] at x ⊢
      exact ⟨b, l', hh, heap_set_same w b _ _ hw, ho x⟩)
  rw [ins_id] at key
  exact key

theorem run_getLoop {P : Program} {w : World} {b : Nat} {l : Loop} (h : w.heap[b]? = some (.loop l)) : (Instr.getLoop b).run P w = .ok l w := by
  simp [Instr.getLoop, getObj, Sem.run, h]
theorem run_setLoop {P : Program} {w : World} {b : Nat} {l : Loop} (h : w.heap[b]? = some (.loop l)) (o : Go.Obj) : (setObj b o).run P w = .ok () { w with heap := w.heap.setIfInBounds b o } :=
  setObj_run h (by simp)

theorem run_endLoop {P : Program} {w : World} {b : Nat} {l : Loop} (h : w.heap[b]? = some (.loop l)) (hs : l.state = .ready ∨ l.state = .done) : (Instr.endLoop b).run P w = .ok l.pending { w with heap := w.heap.setIfInBounds b (.loop { l with state := .exhausted }) } := by
  rcases hs with hs | hs <;> simp [Instr.endLoop, run_getLoop h, run_setLoop h, hs]
theorem run_beginRound {P : Program} {w : World} {b : Nat} {l : Loop} (h : w.heap[b]? = some (.loop l)) (hs : l.state = .ready) : (Instr.beginRound b).run P w = .ok () { w with heap := w.heap.setIfInBounds b (.loop { l with state := .busy }) } := by
  simp [Instr.beginRound, run_getLoop h, run_setLoop h, hs]
theorem run_endRound {P : Program} {w : World} {b : Nat} {l : Loop} (h : w.heap[b]? = some (.loop l)) (jump : Option Code) : (Instr.endRound b jump).run P w = .ok (.bool jump.isNone) { w with heap := w.heap.setIfInBounds b (.loop { l with state := if jump.isNone then .ready else .done, pending := jump }) } := by
  simp [Instr.endRound, run_getLoop h, run_setLoop h]

theorem run_enterLoop {P : Program} (w : World) (fn : FuncId) (tmps : Array Value) (ps : Array Tmp) (asg body : Code) :
    (Instr.enterLoop fn tmps ps asg body none).run P w = .ok (w.heap.size + 1, [{ target := .collected w.heap.size, args := #[] }])
      ((w.alloc (.deferred (some []))).alloc (.loop { state := .ready, pending := none, fn, tmps, params := ps, assign := asg, body, defers := w.heap.size })) := by
  simp [Instr.enterLoop]

/-- **Code, carried over to the model.** -/
theorem W_sound {E : Env} (hE : EnvOk E) {n N b0 : Nat} {K0 : Know} {ι0 : Nat → Value} {st0 : Store} {w0 : World} (hb : b0 ≤ w0.heap.size) : ∀ (c : Code) (F : Fence) (_ : FenceOk F) (rf : Bool) (_ : rf = true → F = Fence.wide) (_ : okC E.pl E.xr N rf c = true)
    (Qv : Exit → Fr → Store → Prop) (Q : Exit → Act → World → Prop)
    (_ : ∀ (e : Exit) (K : Know) (ι : Nat → Value) (st : Store) (fr : Fr) (a : Act) (w : World), Qv e fr st → Stp E.G K0 ι0 st0 w0 K ι st w → FrRel K ι st fr a.tmps → a.tmps.size = N → Dfs b0 w a.defers → Q e a w)
    (K : Know) (ι : Nat → Value) (st : Store) (fr : Fr) (a : Act) (w : World), Stp E.G K0 ι0 st0 w0 K ι st w → FrRel K ι st fr a.tmps → a.tmps.size = N → Dfs b0 w a.defers → W E N c fr st Qv → c.wpIn F n E.P Q a w
  | .skip, F, hF, rf, hrf, hok, Qv, Q, hQ, K, ι, st, fr, a, w, hs, hf, hn, hd, h => wpIn_skip (hQ _ K ι st fr a w h hs hf hn hd)
  | .region id ops draw, F, hF, rf, hrf, hok, Qv, Q, hQ, K, ι, st, fr, a, w, hs, hf, hn, hd, h => by
    simp only [okC, Bool.and_eq_true] at hok
    obtain ⟨hreg, hdr⟩ := hok
    have fin : ∀ (K' : Know) (ι' : Nat → Value) (st' : Store) (fr' : Fr) (a' : Act) (w' : World), Qv .normal fr' st' → Stp E.G K ι st w K' ι' st' w' → FrRel K' ι' st' fr' a'.tmps → a'.tmps.size = N → a'.defers = a.defers → Q .normal a' w' :=
      fun K' ι' st' fr' a' w' q s f z d => hQ _ K' ι' st' fr' a' w' q (hs.trans s) f z (by rw [d]; exact hd.step hs.rel s)
    cases draw with
    | true =>
      unfold W at h
      split at h
      · exact any_region_sound hE hF hreg hs.rel hf hn h fin
      · rename_i hx
        have hx : E.xr id = false := by simpa using hx
        rw [hx] at hdr
        exact draw_sound hE hF (by simpa using hdr) hreg hs.rel hf hn h fin
    | false =>
      unfold W at h
      rw [if_neg (by simp)] at h
      exact wpIn_region_list (opsW_list hE hF hreg (df := a.defers) (K0 := K) (ι0 := ι) (st0 := st) (w0 := w) (fun K' ι' st' fr' a' w' q s f z d => fin K' ι' st' fr' a' w' q s f z d) ops.toList (fun o ho => by
        obtain ⟨i, hi⟩ := List.mem_iff_getElem?.1 ho
        exact ⟨i, by simpa using hi⟩) K ι st fr a w (.refl hs.rel) hf hn rfl h)
  | .seq x y, F, hF, rf, hrf, hok, Qv, Q, hQ, K, ι, st, fr, a, w, hs, hf, hn, hd, h => by
    simp only [okC, Bool.and_eq_true] at hok
    refine wpIn_seq (W_sound hE hb x F hF rf hrf hok.1 (fun e fr' st' => match e with | .normal => W E N y fr' st' Qv | e => Qv e fr' st') _ (fun e K' ι' st' fr' a' w' q s f z d => ?_) K ι st fr a w hs hf hn hd h)
    cases e
    case normal => exact W_sound hE hb y F hF rf hrf hok.2 Qv Q hQ K' ι' st' fr' a' w' s f z d q
    all_goals exact hQ _ K' ι' st' fr' a' w' q s f z d
  | .cond c x y, F, hF, rf, hrf, hok, Qv, Q, hQ, K, ι, st, fr, a, w, hs, hf, hn, hd, h => by
    simp only [okC, Bool.and_eq_true] at hok
    have hc := evalO_rel hs.rel hf c (by rw [hn]; exact hok.1)
    unfold W at h
    split at h
    · rename_i b e
      rw [e] at hc
      cases b with
      | true => exact wpIn_cond_true hc.boolV (W_sound hE hb x F hF rf hrf hok.2.1 Qv Q hQ K ι st fr a w hs hf hn hd (h.1 rfl))
      | false => exact wpIn_cond_false hc.boolV (W_sound hE hb y F hF rf hrf hok.2.2 Qv Q hQ K ι st fr a w hs hf hn hd (h.2 rfl))
    · exact h.elim
  | .block id x, F, hF, rf, hrf, hok, Qv, Q, hQ, K, ι, st, fr, a, w, hs, hf, hn, hd, h => by
    refine wpIn_block (W_sound hE hb x F hF rf hrf hok (fun e fr' st' => match e with | .exit i => if i = id then Qv .normal fr' st' else Qv (.exit i) fr' st' | e => Qv e fr' st') _ (fun e K' ι' st' fr' a' w' q s f z d => ?_) K ι st fr a w hs hf hn hd h)
    cases e <;> first
      | exact hQ _ K' ι' st' fr' a' w' q s f z d
      | skip
    rename_i i
    simp only [Exit.inBlock] at q ⊢
    split at q
    · rename_i e; rw [if_pos e]; exact hQ _ K' ι' st' fr' a' w' q s f z d
    · rename_i e; rw [if_neg e]; exact hQ _ K' ι' st' fr' a' w' q s f z d
  | .loop x, F, hF, rf, hrf, hok, Qv, Q, hQ, K, ι, st, fr, a, w, hs, hf, hn, hd, h => by
    obtain ⟨m, h⟩ := h
    refine wpIn_loop_rounds m ?_
    induction m generalizing K ι st fr a w with
    | zero => exact h.elim
    | succ m ih =>
      rw [roundsIn_succ]
      refine W_sound hE hb x F hF rf hrf hok (fun e fr' st' => match e with | .normal => LoopW (fun fr st Q => W E N x fr st Q) Qv m fr' st' | e => Qv e fr' st') _ (fun e K' ι' st' fr' a' w' q s f z d => ?_) K ι st fr a w hs hf hn hd h
      cases e
      case normal => exact ih K' ι' st' fr' a' w' s f z d q
      all_goals exact hQ _ K' ι' st' fr' a' w' q s f z d
  | .exit i, F, hF, rf, hrf, hok, Qv, Q, hQ, K, ι, st, fr, a, w, hs, hf, hn, hd, h => wpIn_exit (hQ _ K ι st fr a w h hs hf hn hd)
  | .label i, F, hF, rf, hrf, hok, Qv, Q, hQ, K, ι, st, fr, a, w, hs, hf, hn, hd, h => wpIn_label (hQ _ K ι st fr a w h hs hf hn hd)
  | .ret, F, hF, rf, hrf, hok, Qv, Q, hQ, K, ι, st, fr, a, w, hs, hf, hn, hd, h => wpIn_ret (hQ _ K ι st fr a w h hs hf hn hd)
  | .rangeFunc g ps asg body, F, hF, rf, hrf, hok, Qv, Q, hQ, K, ι, st, fr, a, w, hs, hf, hn, hd, h => by
    simp only [okC, Bool.and_eq_true] at hok
    obtain ⟨hrf', hgo, _⟩ := hok
    have hFw := hrf hrf'
    subst hFw
    have hg := evalO_rel hs.rel hf g (by rw [hn]; exact hgo)
    unfold W RangeW at h
    split at h
    · rename_i f caps eg
      rw [eg] at hg
      obtain ⟨v, st1, hspec, fr1, ps1, asg1, body1, nt1, s1, pd, hst1, hs2, hfin⟩ := h
      obtain ⟨vcs, e1, hcl, hcr⟩ : ∃ vs, a.eval g = .func (.func f) #[] vs ∧ caps.length = vs.size ∧ ∀ (i : Nat) (p : PV) (v : Value), caps[i]? = some p → vs[i]? = some v → VRel K ι st p v := by
        generalize a.eval g = z at hg ⊢
        cases hg with
        | tree _ _ q => cases q; exact ⟨_, rfl, rfl, fun i p v hp => by simp at hp⟩
        | fn _ _ vs hl hr => exact ⟨vs, rfl, hl, hr⟩
      refine wpIn_rangeFunc (fun fn _ => ?_)
      let w1 := w.alloc (.deferred (some []))
      let rec0 : Loop := { state := .ready, pending := none, fn, tmps := a.tmps, params := ps, assign := asg, body, defers := w.heap.size }
      let hv : Value := .pointer (some ⟨w.heap.size + 1, 0, none⟩)
      let o0 : Ob := .loop fr ps.toList asg body N 0 none
      have sA : Stp E.G K ι st w K ι st w1 := Stp.allocOther hs.rel _
      have hsz1 : w1.heap.size = w.heap.size + 1 := by simp [w1]
      have sB : Stp E.G K ι st w1 K (ins ι st.length hv) (st ++ [o0]) (w1.alloc (.loop rec0)) := by
        refine Stp.newOb sA.rel o0 (.loop rec0) hv (by rw [hsz1]; rfl) (fun x _ => ⟨w.heap.size + 1, rec0, rfl, ?_, fun _ => ⟨⟨rfl, rfl, rfl, hn, fun t u hu => (hf t u hu).mono x⟩, fun _ => rfl, fun _ => rfl, fun q => by cases q⟩⟩)
        rw [← hsz1]; exact heap_alloc_new w1 _
      have sAB := sA.trans sB
      have hargs : ArgsRel K (ins ι st.length hv) (st ++ [o0]) (.yld st.length :: caps) (#[.func (.yield (w.heap.size + 1)) #[] #[]] ++ vcs) := by
        refine ⟨by simp [hcl]; omega, fun i p u hp hu => ?_⟩
        cases i with
        | zero =>
          have hu' : u = .func (.yield (w.heap.size + 1)) #[] #[] := by
            rw [Array.getElem?_append_left (by simp)] at hu
            simpa using hu.symm
          simp at hp
          subst hp hu'
          exact .yld st.length (w.heap.size + 1) fr ps.toList asg body N 0 none (by simp [o0]) (by rw [ins_same])
        | succ i =>
          rw [Array.getElem?_append_right (by simp)] at hu
          exact (hcr i p u (by simpa using hp) (by simpa using hu)).mono sB.ext
      refine ⟨w.heap.size + 1, [{ target := .collected w.heap.size, args := #[] }], w1.alloc (.loop rec0), { target := .fn (.func f) vcs, args := #[] ++ #[.func (.yield (w.heap.size + 1)) #[] #[]] }, w1.alloc (.loop rec0), f, #[.func (.yield (w.heap.size + 1)) #[] #[]] ++ vcs, w1.alloc (.loop rec0), run_enterLoop w fn a.tmps ps asg body, ?_, fun _ _ => trivial, ?_, ?_, ?_⟩
      · have : (Array.map a.eval #[Operand.const (Value.func (Fn.yield (w.heap.size + 1)) #[] #[])]) = #[Value.func (Fn.yield (w.heap.size + 1)) #[] #[]] := by simp [Act.eval]
        simp only [resolve, rangeCall, e1, Deferred.ofValue, Sem.run_pure, this]
      · simp only [invoke]
        have : (#[] ++ #[Value.func (Fn.yield (w.heap.size + 1)) #[] #[]] ++ vcs) = #[Value.func (Fn.yield (w.heap.size + 1)) #[] #[]] ++ vcs := by simp
        rw [this]
        exact run_callFunc hspec.1 _ _
      · intro q; simp [Fence.wide] at q
      · refine callsIn_wide.2 ((hspec.2 K (ins ι st.length hv) _ _ sB.rel hargs).mono fun e w3 q => ?_)
        obtain ⟨K', ι', rv, rfl, sC, _⟩ := q
        have hlt : st.length < st1.length := (List.getElem?_eq_some_iff.1 hst1).1
        obtain ⟨o', ho', hle⟩ := sC.ext.ids st.length o0 (by simp [o0])
        rw [hst1] at ho'
        injection ho' with ho'
        subst ho'
        have hιl : ι' st.length = hv := by
          have : ins ι st.length hv st.length = ι' st.length := hle
          rw [ins_same] at this; exact this.symm
        obtain ⟨b, l, hh, hw, hl⟩ := sC.rel.obj st.length _ hst1
        rw [hιl] at hh
        simp only [hv, Value.pointer.injEq, Option.some.injEq, Addr.mk.injEq] at hh
        obtain ⟨rfl, _⟩ := hh
        obtain ⟨_, hp, hr0, hr1⟩ := hl (by omega)
        have hstate : l.state = .ready ∨ l.state = .done := by
          rcases (by omega : s1 = 0 ∨ s1 = 1) with q | q
          · exact .inl (hr0 q)
          · exact .inr (hr1 q)
        have sD := Stp.loopSet sC.rel st.length hst1 (fr' := fun _ => .bad) (ps' := []) (asg' := .skip) (body' := .skip) (nt' := 0) (s' := 3) (pd' := none) hιl hw (l' := { l with state := .exhausted }) (fun _ q => by omega)
        have sAll := (hs.trans sAB).trans (sC.trans sD)
        have hfx : FrRel K' ι' (st1.set st.length deadLoop) fr a.tmps := ((hf.mono sAB.ext).mono sC.ext).mono sD.ext
        have hdx : Dfs b0 { w3 with heap := w3.heap.setIfInBounds (w.heap.size + 1) (.loop { l with state := .exhausted }) } ([{ target := .collected w.heap.size, args := #[] }] ++ a.defers) := by
          have hd1 : Dfs b0 (w1.alloc (.loop rec0)) ([{ target := .collected w.heap.size, args := #[] }] ++ a.defers) := by
            obtain ⟨rs, e, nd, hrs⟩ := hd.step hs.rel sAB
            have hold : ∀ r ∈ rs, r < w.heap.size := by
              obtain ⟨rs', e', nd', hrs'⟩ := hd
              intro r hr
              have : r ∈ rs' := by
                have : ({ target := .collected r, args := #[] } : Deferred) ∈ a.defers := by rw [e]; exact List.mem_map.2 ⟨r, hr, rfl⟩
                rw [e'] at this
                obtain ⟨r', h1, h2⟩ := List.mem_map.1 this
                injection h2 with h2 _
                injection h2 with h2
                rw [← h2]; exact h1
              exact heap_lt (hrs' r this).2
            refine ⟨w.heap.size :: rs, by rw [e]; rfl, List.nodup_cons.2 ⟨fun q => absurd (hold _ q) (by omega), nd⟩, fun r hr => ?_⟩
            rcases List.mem_cons.1 hr with rfl | hr
            · refine ⟨Nat.le_trans hb hs.size, ?_⟩
              rw [heap_alloc_old w1 _ _ (by omega)]
              exact heap_alloc_new w _
            · exact hrs r hr
          exact (hd1.step sB.rel sC).step sC.rel sD
        refine ⟨pd, _, (run_endLoop hw hstate).trans (congrArg (fun z => Result.ok z _) (hp hs2)), ?_⟩
        split at hfin
        · exact hQ _ K' ι' _ fr { a with defers := [{ target := .collected w.heap.size, args := #[] }] ++ a.defers } _ hfin sAll hfx hn hdx
        · exact wpIn_ret (hQ _ K' ι' _ fr { a with defers := [{ target := .collected w.heap.size, args := #[] }] ++ a.defers } _ hfin sAll hfx hn hdx)
        · exact wpIn_exit (hQ _ K' ι' _ fr { a with defers := [{ target := .collected w.heap.size, args := #[] }] ++ a.defers } _ hfin sAll hfx hn hdx)
        · exact hfin.elim
    · exact h.elim
  | .goto _, _, _, _, _, _, _, _, _, _, _, _, _, _, _, _, _, _, _, h => h.elim
  | .scope _, _, _, _, _, _, _, _, _, _, _, _, _, _, _, _, _, _, _, h => h.elim
  | .refuse _, _, _, _, _, _, _, _, _, _, _, _, _, _, _, _, _, _, _, h => h.elim

end Go.Pv
end
section
namespace Go.Pv

/-- A result variable's value. -/
def resOne (E : Env) (fr : Fr) (st : Store) : ResultVar → Option PV
  | .tmp t => some (fr t)
  | .cell a t => match E.T t, fr a with
    | some te, .optr id tot off => (match st[id]? with
      | some (.cells cs) => if tot = cs.length then partF te cs off else none
      | _ => none)
    | some te, .rptr cs => partF te cs 0
    | _, _ => none
def resAll (E : Env) (fr : Fr) (st : Store) : List ResultVar → Option (List PV)
  | [] => some []
  | r :: rs => match resOne E fr st r, resAll E fr st rs with
    | some p, some ps => some (p :: ps)
    | _, _ => none
def resF (E : Env) (rs : List ResultVar) (fr : Fr) (st : Store) : Option PV := (resAll E fr st rs).map fun ps => match ps with | [p] => p | ps => .tup ps
def resIn (N : Nat) : ResultVar → Bool | .tmp t => decide (t < N) | .cell a _ => decide (a < N)

def resRun (tmps : Array Value) : ResultVar → Sem Value
  | .tmp t => pure (tmps.getD t undef)
  | .cell a t => do loadVar t (← asAddr (tmps.getD a undef))
theorem results_eq (fn : Func) (tmps : Array Value) : results fn tmps = (do let vs ← fn.results.mapM (resRun tmps); pure (if h : vs.size = 1 then vs[0] else .tuple vs)) := by
  unfold results
  congr 1

theorem resOne_run {E : Env} (hE : EnvOk E) {K ι st w fr} (h : Rel E.G K ι st w) {tmps : Array Value} (hf : FrRel K ι st fr tmps) {r : ResultVar} (hr : resIn tmps.size r = true) {p : PV} (ho : resOne E fr st r = some p) :
    ∃ v, (resRun tmps r).run E.P w = .ok v w ∧ VRel K ι st p v := by
  have at_ : ∀ t, t < tmps.size → ∃ v, tmps.getD t undef = v ∧ VRel K ι st (fr t) v := fun t ht =>
    ⟨tmps[t], by simp [Array.getD_eq_getD_getElem?, ht], hf t _ (Array.getElem?_eq_getElem ht)⟩
  cases r with
  | tmp t =>
    simp only [resOne, Option.some.injEq] at ho
    subst ho
    obtain ⟨v, e, hv⟩ := at_ t (by simpa [resIn] using hr)
    exact ⟨v, by simp [resRun, e, Sem.run_pure], hv⟩
  | cell a t =>
    obtain ⟨v, e, hv⟩ := at_ a (by simpa [resIn] using hr)
    simp only [resOne] at ho
    have ld : ∀ ad, v = .pointer (some ad) → (resRun tmps (.cell a t)).run E.P w = (Instr.loadAt t v).run E.P w := by
      intro ad hv'
      subst hv'
      simp [resRun, e, asAddr, Instr.loadAt, Instr.sureAddr]
    split at ho
    · rename_i te id tot off hT hfa
      rw [hfa] at hv
      obtain ⟨ad, hv'⟩ := hv.optrV
      rw [ld ad hv']
      split at ho
      · rename_i cs hst
        split at ho
        · rename_i htot
          exact (load_pure hE h hT hv (v := p) (st' := st) (by simp [hst, htot, ho])).2
        · cases ho
      · cases ho
    · rename_i te cs hT hfa
      rw [hfa] at hv
      obtain ⟨b, off, f, hv', _⟩ := hv.rptrV
      rw [ld _ hv']
      exact (load_pure hE h hT hv (v := p) (st' := st) (by simp [ho])).2
    · cases ho

theorem resAll_run {E : Env} (hE : EnvOk E) {K ι st w fr} (h : Rel E.G K ι st w) {tmps : Array Value} (hf : FrRel K ι st fr tmps) : ∀ (rs : List ResultVar), rs.all (resIn tmps.size) = true → ∀ ps, resAll E fr st rs = some ps →
    ∃ vs : List Value, (rs.mapM (resRun tmps)).run E.P w = .ok vs w ∧ ps.length = vs.length ∧ ∀ (i : Nat) (p : PV) (v : Value), ps[i]? = some p → vs[i]? = some v → VRel K ι st p v
  | [], _, ps, hp => ⟨[], by simp [Sem.run_pure], by simp [resAll] at hp; subst hp; rfl, by simp⟩
  | r :: rs, hr, ps, hp => by
    simp only [List.all_cons, Bool.and_eq_true] at hr
    unfold resAll at hp
    split at hp
    · rename_i p ps' h1 h2
      cases hp
      obtain ⟨v, e1, r1⟩ := resOne_run hE h hf hr.1 h1
      obtain ⟨vs, e2, l2, r2⟩ := resAll_run hE h hf rs hr.2 ps' h2
      refine ⟨v :: vs, by simp [List.mapM_cons, Sem.run_bind, e1, e2, Sem.run_pure], by simp [l2], fun i p' v' hp hv => ?_⟩
      cases i with
      | zero => simp at hp hv; subst hp hv; exact r1
      | succ i => exact r2 i p' v' (by simpa using hp) (by simpa using hv)
    · cases hp

theorem resF_run {E : Env} (hE : EnvOk E) {K ι st w fr} (h : Rel E.G K ι st w) {fn : Func} {tmps : Array Value} (hf : FrRel K ι st fr tmps) (hr : fn.results.toList.all (resIn tmps.size) = true) {p : PV} (hp : resF E fn.results.toList fr st = some p) :
    ∃ v, (results fn tmps).run E.P w = .ok v w ∧ VRel K ι st p v := by
  obtain ⟨ps, h1, h2⟩ := Option.map_eq_some_iff.1 hp
  obtain ⟨vs, e1, l, r⟩ := resAll_run hE h hf _ hr ps h1
  have hm : (fn.results.mapM (resRun tmps)).run E.P w = .ok vs.toArray w := by
    have : fn.results = fn.results.toList.toArray := by simp
    rw [this, List.mapM_toArray]
    simp [e1]
  refine ⟨_, by rw [results_eq, Sem.run_bind, hm]; rfl, ?_⟩
  match ps, l, r, h2 with
  | [q], l, r, h2 =>
    match vs, l with
    | [v], _ =>
      simp at h2
      subst h2
      exact r 0 q v rfl rfl
  | [], l, r, h2 =>
    match vs, l with
    | [], _ =>
      subst h2
      exact .tree _ _ (.tup [] #[] rfl (by simp))
  | q1 :: q2 :: ps, l, r, h2 =>
    match vs, l with
    | v1 :: v2 :: vs, l =>
      subst h2
      rw [dif_neg (by simp)]
      exact .tup _ _ (by simpa using l) (fun i p v hp hv => r i p v hp (by simpa using hv))

end Go.Pv
end
section
namespace Go.Pv

/-- A frame's own block is shut. -/
theorem Stp.shut {G K0 ι0 st0 w0 K ι st w} (h : Stp G K0 ι0 st0 w0 K ι st w) {r : Nat} {x} (hr : w.heap[r]? = some (.deferred x)) (h0 : w0.heap.size ≤ r) (y) :
    Stp G K0 ι0 st0 w0 K ι st { w with heap := w.heap.setIfInBounds r (.deferred y) } := by
  have hno := not_owned_deferred h.rel hr
  refine ⟨⟨fun a v e => ?_, h.rel.glob, fun id o e => ?_, h.rel.apart, h.rel.gsz.keep fun b hb cs e => heap_set_other w r b _ (fun q => ?_), h.rel.gown⟩, h.ext, h.os, h.tape, h.output, by simpa using h.size, fun b hb ho => ?_, h.owns, h.fresh⟩
  · have hc := h.rel.know a v e
    have hab : a.block ≠ r := fun q => by rw [World.cell?, q, hr] at hc; simp at hc
    rw [← hc]; exact World.cell?_of_block (w := w) (heap_set_other w r a.block _ hab)
  · have hid := (List.getElem?_eq_some_iff.1 e).1
    exact (h.rel.obj id o e).carry (.refl _ _ _) (fun b hb => heap_set_other w r b _ (fun q => hno ⟨id, hid, q ▸ hb⟩)) (fun _ _ _ q => q)
  · obtain ⟨arr, t, fz, h1, _⟩ := h.rel.gsz b cs e
    rw [q, hr] at h1
    cases h1
  · have : b ≠ r := by omega
    rw [heap_set_other w r b _ this]; exact h.block b hb ho

theorem run_takeDeferred {P : Program} {w : World} {r : Nat} (h : w.heap[r]? = some (.deferred (some []))) : (Instr.takeDeferred r).run P w = .ok [] { w with heap := w.heap.setIfInBounds r (.deferred none) } := by
  have : (setObj r (.deferred none)).run P w = .ok () { w with heap := w.heap.setIfInBounds r (.deferred none) } := setObj_run h (by simp)
  simp [Instr.takeDeferred, getObj, Sem.run, h, this] <;> simp [setObj, Sem.run, h]

theorem leaves_marks {P : Program} {G : Nat → PV} {n : Nat} {fn : Func} {tmps : Array Value} {R : Ending → World → Prop} {K0 ι0 st0 w0} {K : Know} {ι : Nat → Value} {st : Store} :
    ∀ (rs : List Nat) (w : World), rs.Nodup → (∀ r ∈ rs, w0.heap.size ≤ r ∧ w.heap[r]? = some (.deferred (some []))) → Stp G K0 ι0 st0 w0 K ι st w →
      (∀ w', Stp G K0 ι0 st0 w0 K ι st w' → ∃ v, (results fn tmps).run P w' = .ok v w' ∧ R (.returned v) w') →
      LeavesInM Fence.wide n P fn tmps R (rs.map fun r => { target := .collected r, args := #[] }) .returning w
  | [], w, _, _, hs, hR => hR w hs
  | r :: rs, w, hn, hr, hs, hR => by
    obtain ⟨h1, h2⟩ := hr r (by simp)
    obtain ⟨hn1, hn2⟩ := List.nodup_cons.1 hn
    refine ⟨by simp, .inl ⟨r, _, rfl, run_takeDeferred h2, ?_⟩⟩
    refine leaves_marks rs _ hn2 (fun r' hr' => ⟨(hr r' (by simp [hr'])).1, ?_⟩) (hs.shut h2 h1 none) hR
    rw [heap_set_other w r r' _ (fun q => hn1 (q ▸ hr'))]
    exact (hr r' (by simp [hr'])).2

/-- A function, and what is looked at beforehand. -/
structure FnOk (E : Env) (f : FuncId) (N : Nat) (rs : List ResultVar) (c : Code) : Prop where
  ex : ∃ fn : Func, E.P.funcs[f]? = some fn ∧ fn.body = some c ∧ fn.ntmps = N ∧ fn.results.toList = rs ∧ (fn.name == "runtime.NumGoroutine") = false
  code : okC E.pl E.xr N true c = true
  res : rs.all (resIn N) = true

theorem FnOk.enters {E f N rs c} (h : FnOk E f N rs c) : Enters E.P f := by
  obtain ⟨fn, h1, h2, _, _, h5⟩ := h.ex
  exact ⟨fn, h1, h5, by rw [h2]; rfl⟩

/-- What a function's frame begins with. -/
def argFr (args : List PV) : Fr := fun t => (args[t]?).getD (.tup [])

theorem argFr_rel {K ι st} {args : List PV} {vs : Array Value} (h : ArgsRel K ι st args vs) (m : Nat) : FrRel K ι st (argFr args) (vs ++ Array.replicate m undef) := by
  intro t v hv
  unfold argFr
  by_cases ht : t < vs.size
  · rw [Array.getElem?_append_left ht] at hv
    have : t < args.length := by rw [h.1]; exact ht
    rw [List.getElem?_eq_getElem this]
    exact h.2 t _ v (List.getElem?_eq_getElem this) hv
  · rw [Array.getElem?_append_right (by omega), Array.getElem?_replicate] at hv
    rw [List.getElem?_eq_none (by rw [h.1]; omega)]
    split at hv
    · cases hv; exact undef_rel K ι st
    · cases hv

/-- What a function's code comes to. -/
def BodyW (E : Env) (N : Nat) (rs : List ResultVar) (c : Code) (args : List PV) (st : Store) (Q : PV → Store → Prop) : Prop :=
  W E N c (argFr args) st fun e fr1 st1 => (e = .normal ∨ e = .ret) ∧ ∃ v, resF E rs fr1 st1 = some v ∧ Q v st1

theorem calls_of_W {E : Env} (hE : EnvOk E) {f : FuncId} {N : Nat} {rs : List ResultVar} {c : Code} (hok : FnOk E f N rs c) {args : List PV} {st : Store} {Q : PV → Store → Prop} (hl : args.length ≤ N) (h : BodyW E N rs c args st Q)
    {K : Know} {ι : Nat → Value} {w : World} {vs : Array Value} (hr : Rel E.G K ι st w) (ha : ArgsRel K ι st args vs) :
    Calls E.P f vs w fun e w' => ∃ (K' : Know) (ι' : Nat → Value) (st' : Store) (v : PV) (rv : Value), e = .returned rv ∧ Q v st' ∧ Stp E.G K ι st w K' ι' st' w' ∧ VRel K' ι' st' v rv := by
  obtain ⟨fn, h1, h2, h3, h4, _⟩ := hok.ex
  subst h3 h4
  refine callsIn_wide.1 (callsIn_of_wp_marks (n := 0) h1 h2 trivial ?_)
  refine W_sound hE (b0 := w.heap.size) (Nat.le_refl _) c Fence.wide (.inl rfl) true (fun _ => rfl) hok.code _ _ (fun e K' ι' st' fr' a' w' q s f z d => ?_) K ι st (argFr args) _ w (.refl hr) (argFr_rel ha _) (by simp; have := ha.1; omega) ⟨[], rfl, by simp, by simp⟩ h
  obtain ⟨he, v, hv, hQ⟩ := q
  obtain ⟨ms, hms, nd, hrs⟩ := d
  have : LeavesInM Fence.wide 0 E.P fn a'.tmps (fun e w' => ∃ (K' : Know) (ι' : Nat → Value) (st' : Store) (v : PV) (rv : Value), e = .returned rv ∧ Q v st' ∧ Stp E.G K ι st w K' ι' st' w' ∧ VRel K' ι' st' v rv) a'.defers .returning w' := by
    rw [hms]
    refine leaves_marks ms w' nd hrs s (fun w'' s' => ?_)
    obtain ⟨rv, e1, r1⟩ := resF_run hE s'.rel (fn := fn) f (by rw [z]; exact hok.res) hv
    exact ⟨rv, e1, K', ι', st', v, rv, rfl, hQ, s', r1⟩
  rcases he with rfl | rfl <;> exact this

/-- **A contract, out of the code.** -/
theorem spec_of_W {E : Env} (hE : EnvOk E) {f : FuncId} {N : Nat} {rs : List ResultVar} {c : Code} (hok : FnOk E f N rs c) {args : List PV} {st : Store} {v : PV} {st' : Store} (hl : args.length ≤ N) (h : BodyW E N rs c args st fun v' st1 => v' = v ∧ st1 = st') :
    Spec E f args st v st' :=
  ⟨hok.enters, fun K ι w vs hr ha => (calls_of_W hE hok hl h hr ha).mono fun e w' q => by
    obtain ⟨K', ι', st1, v1, rv, e1, ⟨rfl, rfl⟩, s, r⟩ := q
    exact ⟨K', ι', rv, e1, s, r⟩⟩

/-! ### What is handed out -/
def allSome (f : PV → Option PV) : List PV → Option (List PV)
  | [] => some []
  | p :: ps => match f p, allSome f ps with
    | some q, some qs => some (q :: qs)
    | _, _ => none
theorem allSome_get {f : PV → Option PV} : ∀ {ps qs : List PV}, allSome f ps = some qs → qs.length = ps.length ∧ ∀ (i : Nat) (q : PV), qs[i]? = some q → ∃ p, ps[i]? = some p ∧ f p = some q
  | [], qs, h => by simp [allSome] at h; subst h; simp
  | p :: ps, qs, h => by
    unfold allSome at h
    split at h
    · rename_i q qs' h1 h2
      cases h
      obtain ⟨l, r⟩ := allSome_get h2
      refine ⟨by simp [l], fun i x hx => ?_⟩
      cases i with
      | zero => simp at hx; subst hx; exact ⟨p, rfl, h1⟩
      | succ i => simpa using r i x (by simpa using hx)
    · cases h

def allRows (f : PV → Option PV) (cs : List PV) (off k : Nat) : Nat → Option (List (List PV))
  | 0 => some []
  | n + 1 => match allSome f ((cs.drop off).take k), allRows f cs (off + k) k n with
    | some r, some rs => some (r :: rs)
    | _, _ => none
theorem allRows_get {f : PV → Option PV} {cs : List PV} {k : Nat} : ∀ {n off : Nat} {rows : List (List PV)}, allRows f cs off k n = some rows → rows.length = n ∧
    ∀ (j : Nat) (r : List PV), rows[j]? = some r → allSome f ((cs.drop (off + j * k)).take k) = some r
  | 0, off, rows, h => by simp [allRows] at h; subst h; simp
  | n + 1, off, rows, h => by
    unfold allRows at h
    split at h
    · rename_i r rs h1 h2
      cases h
      obtain ⟨l, g⟩ := allRows_get h2
      refine ⟨by simp [l], fun j x hx => ?_⟩
      cases j with
      | zero => simp at hx; subst hx; simpa using h1
      | succ j =>
        have := g j x (by simpa using hx)
        rw [show off + (j + 1) * k = off + k + j * k by rw [Nat.add_mul]; omega]
        exact this
    · cases h

/-- A value, handed out: what it leads to is never changed again. -/
def pub (st : Store) : Nat → PV → Option PV
  | 0, _ => none
  | n + 1, p => match p with
    | .osl id tot off len k => (match st[id]? with
      | some (.cells cs) => if tot = cs.length ∧ off + len * k ≤ tot ∧ len ≤ LIM then (allRows (pub st n) cs off k len).map fun rows => .sl k rows .ro else none
      | _ => none)
    | .optr id tot off => (match st[id]? with
      | some (.cells cs) => if tot = cs.length then (allSome (pub st n) (cs.drop off)).map .rptr else none
      | _ => none)
    | .agg cs => (allSome (pub st n) cs).map .agg
    | .tup cs => (allSome (pub st n) cs).map .tup
    | .rptr cs => some (.rptr cs)
    | p => if cellOk (tokRo p) then some (tokRo p) else none

end Go.Pv
end
section
namespace Go.Pv

/-- What is known when a function has ended that began with nothing: all that it laid. -/
def KEnd (K : Know) (n0 : Nat) (w : World) : Know := fun a => if a.block < n0 then K a else w.cell? a

section
variable {G : Nat → PV} {K : Know} {ι0 : Nat → Value} {w0 : World} {K' : Know} {ι : Nat → Value} {st : Store} {w : World}

theorem KEnd.ge (h0 : Rel G K ι0 [] w0) (s : Stp G K ι0 [] w0 K' ι st w) : ∀ a v, K' a = some v → KEnd K w0.heap.size w a = some v := by
  intro a v e
  unfold KEnd
  split
  · rename_i hlt
    rcases s.fresh a v e with q | q | q
    · exact q
    · omega
    · exact absurd q not_owned_nil
  · exact s.rel.know a v e

theorem own_new (s : Stp G K ι0 [] w0 K' ι st w) {id : Nat} (hid : id < st.length) {b : Nat} (hb : hblk (ι id) = some b) : w0.heap.size ≤ b := by
  rcases Nat.lt_or_ge b w0.heap.size with q | q
  · exact absurd (s.owns b ⟨id, hid, hb⟩ q) not_owned_nil
  · exact q

/-- An object's cells, read as known memory. -/
theorem KEnd.cells (s : Stp G K ι0 [] w0 K' ι st w) {id : Nat} {cs : List PV} (hst : st[id]? = some (.cells cs)) {b sz : Nat} (hι : ι id = .slice (some ⟨b, 0, none⟩) 0 sz) :
    ∃ f : Nat → Value, (∀ i, i < cs.length → KEnd K w0.heap.size w ⟨b, i, none⟩ = some (f i)) ∧ (∀ i, (f i).oneCell' = true) ∧ ∀ (i : Nat) (p : PV), cs[i]? = some p → VRel K' ι st p (f i) := by
  obtain ⟨b', arr, e, hh, hw, hl, hc, _⟩ := s.rel.obj id _ hst
  rw [hι] at hh
  injection hh with q1 _ _
  injection q1 with q1
  injection q1 with q1
  subst q1
  have hnew := own_new s (List.getElem?_eq_some_iff.1 hst).1 (b := b) (by rw [hι]; rfl)
  refine ⟨fun i => if i < cs.length then (arr[i]?).getD (.bool false) else .bool false, fun i hi => ?_, fun i => ?_, fun i p hp => ?_⟩
  · have hx : arr[i]? = some arr[i] := Array.getElem?_eq_getElem (by omega)
    unfold KEnd
    rw [if_neg (by simp; omega)]
    simp [World.cell?, hw, hx, hi]
  · show (if i < cs.length then (arr[i]?).getD (.bool false) else .bool false : Value).oneCell' = true
    split
    · rename_i hi
      obtain ⟨v, a1, _, a3⟩ := hc i _ (List.getElem?_eq_getElem hi)
      rw [a1]; exact a3
    · rfl
  · have hi := (List.getElem?_eq_some_iff.1 hp).1
    obtain ⟨v, a1, a2, _⟩ := hc i p hp
    show VRel K' ι st p (if i < cs.length then (arr[i]?).getD (.bool false) else .bool false)
    rw [if_pos hi, a1]; exact a2

theorem pub_rel (h0 : Rel G K ι0 [] w0) (s : Stp G K ι0 [] w0 K' ι st w) : ∀ (n : Nat) (p q : PV) (v : Value), VRel K' ι st p v → pub st n p = some q → TRel (KEnd K w0.heap.size w) q v
  | 0, _, _, _, _, h => by simp [pub] at h
  | n + 1, p, q, v, hv, h => by
    have ih := pub_rel h0 s n
    have mono := KEnd.ge h0 s
    unfold pub at h
    split at h
    · rename_i id tot off len k
      split at h
      · rename_i cs hst
        split at h
        · rename_i hc
          obtain ⟨c1, c2, c3⟩ := hc
          obtain ⟨rows, hrows, rfl⟩ := Option.map_eq_some_iff.1 h
          cases hv with
          | tree _ _ q => cases q
          | osl _ _ _ _ _ A c cs' hst' hle hlc hn heq =>
            rw [hst] at hst'
            injection hst' with hst'
            injection hst' with hst'
            subst hst'
            obtain ⟨b, sz, e1, e2, e3, e4⟩ := heq c1
            obtain ⟨f, f1, f2, f3⟩ := KEnd.cells s hst e1
            obtain ⟨l, g⟩ := allRows_get hrows
            have row : ∀ (j : Nat) (r : List PV), rows[j]? = some r → j < len ∧ allSome (pub st n) ((cs.drop (off + j * k)).take k) = some r := fun j r hr => ⟨by
              have := (List.getElem?_eq_some_iff.1 hr).1; omega, g j r hr⟩
            have fit : ∀ j, j < len → off + j * k + k ≤ cs.length := fun j hj => by
              have : (j + 1) * k ≤ len * k := Nat.mul_le_mul_right k (by omega)
              rw [Nat.add_mul] at this
              omega
            have : TRel (KEnd K w0.heap.size w) (.sl k rows .ro) (.slice A rows.length c) := by
              refine .sl k rows .ro A c b off (fun j i => f (off + (j * k + i))) (fun j r hr => ?_) (fun hne => e2 ?_) (fun j i hj hi => ?_) (fun j i r p hr hp => ?_) (fun j i => f2 _) (by omega) hn.2 hn.1 (.inl rfl)
              · obtain ⟨h1, h2⟩ := row j r hr
                rw [(allSome_get h2).1]
                have := fit j h1
                simp; omega
              · have : rows.length ≠ 0 := fun q => hne (List.length_eq_zero_iff.1 q)
                omega
              · have := fit j (by omega)
                exact f1 _ (by omega)
              · obtain ⟨h1, h2⟩ := row j r hr
                obtain ⟨l2, g2⟩ := allSome_get h2
                obtain ⟨p0, hp0, hpp⟩ := g2 i p hp
                have hi : i < k := by
                  have := (List.getElem?_eq_some_iff.1 hp0).1
                  simp at this; omega
                rw [drop_take_get _ _ _ _ hi] at hp0
                refine ih p0 p _ ?_ hpp
                have := f3 _ p0 hp0
                rw [Nat.add_assoc] at this
                exact this
            rw [l] at this
            exact this
        · cases h
      · cases h
    · rename_i id tot off
      split at h
      · rename_i cs hst
        split at h
        · rename_i hc
          obtain ⟨xs, hxs, rfl⟩ := Option.map_eq_some_iff.1 h
          cases hv with
          | tree _ _ q => cases q
          | optr _ _ _ ad cs' hst' hle heq =>
            rw [hst] at hst'
            injection hst' with hst'
            injection hst' with hst'
            subst hst'
            obtain ⟨b, sz, e1, rfl⟩ := heq hc
            obtain ⟨f, f1, f2, f3⟩ := KEnd.cells s hst e1
            obtain ⟨l, g⟩ := allSome_get hxs
            refine .rptr xs b off (fun i => f (off + i)) (fun i hi => f1 _ ?_) (fun i => f2 _) (fun i p hp => ?_)
            · rw [l] at hi; simp at hi; omega
            · obtain ⟨p0, hp0, hpp⟩ := g i p hp
              rw [List.getElem?_drop] at hp0
              exact ih p0 p _ (f3 _ p0 hp0) hpp
        · cases h
      · cases h
    · rename_i cs
      obtain ⟨xs, hxs, rfl⟩ := Option.map_eq_some_iff.1 h
      obtain ⟨l, g⟩ := allSome_get hxs
      obtain ⟨vs, rfl, hl, h1, hr⟩ := hv.aggV
      refine .agg xs vs (by omega) h1 (fun i p v hp hv => ?_)
      obtain ⟨p0, hp0, hpp⟩ := g i p hp
      exact ih p0 p v (hr i p0 v hp0 hv) hpp
    · rename_i cs
      obtain ⟨xs, hxs, rfl⟩ := Option.map_eq_some_iff.1 h
      obtain ⟨l, g⟩ := allSome_get hxs
      obtain ⟨vs, rfl, hl, hr⟩ := hv.tupV
      refine .tup xs vs (by omega) (fun i p v hp hv => ?_)
      obtain ⟨p0, hp0, hpp⟩ := g i p hp
      exact ih p0 p v (hr i p0 v hp0 hv) hpp
    · cases h
      cases hv with | tree _ _ q => exact q.mono mono
    · split at h
      · rename_i hc
        cases h
        exact (share_cell hv hc).mono mono
      · cases h

/-- With what it laid being known, it is as though it had begun and ended with nothing. -/
theorem Stp.ends (h0 : Rel G K ι0 [] w0) (s : Stp G K ι0 [] w0 K' ι st w) (ι1 : Nat → Value) : Stp G K ι1 [] w0 (KEnd K w0.heap.size w) ι1 [] w := by
  have old : ∀ a v, K a = some v → KEnd K w0.heap.size w a = some v := fun a v e => by
    unfold KEnd
    rw [if_pos (h0.know_lt e)]; exact e
  refine ⟨⟨fun a v e => ?_, fun g => (s.rel.glob g).mono (KEnd.ge h0 s), fun id o e => by simp at e, fun i j b hi => by simp at hi, s.rel.gsz, fun _ _ _ => not_owned_nil⟩, ⟨old, Nat.le_refl _, fun id o e => by simp at e⟩, s.os, s.tape, s.output, s.size, fun b hb _ => s.block b hb not_owned_nil, fun b hb => absurd hb not_owned_nil, fun a v e => ?_⟩
  · unfold KEnd at e
    split at e
    · exact s.rel.know a v (s.ext.know a v e)
    · exact e
  · unfold KEnd at e
    split at e
    · exact .inl e
    · exact .inr (.inl (by omega))
end

/-- **A plain contract, out of the code.** -/
theorem plain_of_W {E : Env} (hE : EnvOk E) {f : FuncId} {N : Nat} {rs : List ResultVar} {c : Code} (hok : FnOk E f N rs c) {args : List PV} {v : PV} (hl : args.length ≤ N) (h : BodyW E N rs c args [] fun p st1 => ∃ n, pub st1 n p = some v) :
    Plain E f args v :=
  ⟨hok.enters, fun K w vs hr ha => (calls_of_W hE hok hl h hr ⟨ha.1, fun i p u hp hu => .tree _ _ (ha.2 i p u hp hu)⟩).mono fun e w' q => by
    obtain ⟨K', ι', st1, p, rv, rfl, ⟨n, hn⟩, s, r⟩ := q
    exact ⟨KEnd K w.heap.size w', rv, rfl, s.ends hr _, pub_rel hr s n p v rv r hn⟩⟩

end Go.Pv
end
section
namespace Go.Pv

def setPs : List Nat → List PV → Fr → Fr
  | p :: ps, x :: xs, fr => setPs ps xs (upd fr (some p) x)
  | _, _, fr => fr

/-- What a round comes to: the loop's assignment, its body, the jump. -/
def RoundW (E : Env) (N l : Nat) (fr : Fr) (ps : List Nat) (asg body : Code) (args : List PV) (st : Store) (Q : PV → Store → Prop) : Prop :=
  W E N asg (setPs ps args fr) st fun e fr1 st1 => e = .normal ∧ st1[l]? = some (.loop fr ps asg body N 0 none) ∧
    W E N body fr1 (st1.set l (.loop fr ps asg body N 2 none)) fun e _ st2 => st2[l]? = some (.loop fr ps asg body N 2 none) ∧ match e with
      | .normal => Q (.bool true) (st2.set l (.loop fr ps asg body N 0 none))
      | .ret => Q (.bool false) (st2.set l (.loop fr ps asg body N 1 (some .ret)))
      | .exit i => Q (.bool false) (st2.set l (.loop fr ps asg body N 1 (some (.exit i))))
      | _ => False

theorem setPs_rel {K ι st} : ∀ (ps : List Nat) (args : List PV) (vs : List Value) (fr : Fr) (tm : Array Value), args.length = vs.length → (∀ (i : Nat) (p : PV) (v : Value), args[i]? = some p → vs[i]? = some v → VRel K ι st p v) → FrRel K ι st fr tm →
    FrRel K ι st (setPs ps args fr) ((ps.zip vs).foldl (fun tm q => tm.setIfInBounds q.1 q.2) tm) ∧ ((ps.zip vs).foldl (fun tm q => tm.setIfInBounds q.1 q.2) tm).size = tm.size
  | [], args, vs, fr, tm, _, _, h => by simp [setPs, h]
  | p :: ps, [], [], fr, tm, _, _, h => by simp [setPs, h]
  | p :: ps, x :: xs, v :: vs, fr, tm, hl, hr, h => by
    have h1 : FrRel K ι st (upd fr (some p) x) (tm.setIfInBounds p v) := FrRel.put (a := { tmps := tm, defers := [] }) (d := some p) h (hr 0 x v rfl rfl)
    obtain ⟨a1, a2⟩ := setPs_rel ps xs vs _ _ (by simpa using hl) (fun i p v hp hv => hr (i + 1) p v (by simpa using hp) (by simpa using hv)) h1
    refine ⟨by simpa [setPs] using a1, ?_⟩
    rw [List.zip_cons_cons, List.foldl_cons, a2]
    simp
  | p :: ps, [], v :: vs, fr, tm, hl, _, _ => by simp at hl
  | p :: ps, x :: xs, [], fr, tm, hl, _, _ => by simp at hl

theorem loopOf {G K ι st w} (h : Rel G K ι st w) {l : Nat} {fr ps asg body nt s pd} (hst : st[l]? = some (.loop fr ps asg body nt s pd)) {b : Nat} (hb : ι l = .pointer (some ⟨b, 0, none⟩)) :
    ∃ r, w.heap[b]? = some (.loop r) ∧ loopIs K ι st fr ps asg body nt s pd r := by
  obtain ⟨b', r, hh, hw, hl⟩ := h.obj l _ hst
  rw [hb] at hh
  injection hh with hh
  injection hh with hh
  injection hh with hh
  subst hh
  exact ⟨r, hw, hl⟩

theorem ι_loop {K ι st K' ι' st'} (x : Ext K ι st K' ι' st') {l : Nat} {fr ps asg body nt s pd} (hst : st[l]? = some (.loop fr ps asg body nt s pd)) : ι' l = ι l := by
  obtain ⟨o', _, hle⟩ := x.ids l _ hst
  cases o' <;> simp [Ob.le] at hle
  exact hle.symm

/-- **A round's contract, out of the code.** -/
theorem yspec_of_W {E : Env} (hE : EnvOk E) {N l : Nat} {fr : Fr} {ps : List Nat} {asg body : Code} {args : List PV} {st : Store} {v : PV} {st' : Store} (hst : st[l]? = some (.loop fr ps asg body N 0 none))
    (ha : okC E.pl E.xr N false asg = true) (hbd : okC E.pl E.xr N false body = true) (hl : args.length = ps.length) (h : RoundW E N l fr ps asg body args st fun v1 st1 => v1 = v ∧ st1 = st') : YSpec E l args st v st' := by
  intro K ι w vs b hr hargs hb hlt
  obtain ⟨r, hw, hloop⟩ := loopOf hr hst hb
  obtain ⟨⟨q1, q2, q3, q4, q5⟩, q6, q7, _⟩ := hloop (by omega)
  have hpsz : r.params.size = vs.size := by
    have := congrArg List.length q3
    simp at this
    rw [this, ← hl, hargs.1]
  have hp := setPs_rel (K := K) (ι := ι) (st := st) ps args vs.toList fr r.tmps (by simpa using hargs.1) (fun i p v hp hv => hargs.2 i p v hp (by simpa using hv)) q5
  have hfold : (r.params.zip vs).foldl (fun tmps (t, a) => tmps.setIfInBounds t a) r.tmps = (ps.zip vs.toList).foldl (fun tm q => tm.setIfInBounds q.1 q.2) r.tmps := by
    rw [← q3, ← Array.foldl_toList, Array.toList_zip]
  refine ⟨r.fn, (ps.zip vs.toList).foldl (fun tm q => tm.setIfInBounds q.1 q.2) r.tmps, asg, body, ?_, ?_⟩
  · simp only [Instr.yield, Sem.run_bind, run_getLoop hw, Result.andThen_ok]
    rw [if_neg (by omega)]
    simp only [q1, q2, hfold]
    rfl
  refine roundIn_of_wpIn trivial ?_
  refine W_sound hE (b0 := 0) (Nat.zero_le _) asg _ (.inr ⟨b, rfl⟩) false (fun q => by cases q) ha _ _ (fun e K1 ι1 st1 fr1 a1 w1 q s f z d => ?_) K ι st (setPs ps args fr) _ w (.refl hr) hp.1 (by simp only; rw [hp.2]; exact q4) ⟨[], rfl, by simp, by simp⟩ h
  obtain ⟨rfl, hst1, hbody⟩ := q
  have hb1 : ι1 l = .pointer (some ⟨b, 0, none⟩) := by rw [ι_loop s.ext hst, hb]
  obtain ⟨r1, hw1, hl1⟩ := loopOf s.rel hst1 hb1
  obtain ⟨⟨p1, p2, p3, p4, p5⟩, p6, p7, _⟩ := hl1 (by omega)
  have sB := Stp.loopSet s.rel l hst1 (fr' := fr) (ps' := ps) (asg' := asg) (body' := body) (nt' := N) (s' := 2) (pd' := none) hb1 hw1 (l' := { r1 with state := .busy })
    (fun x _ => ⟨⟨p1, p2, p3, p4, fun t v hv => (p5 t v hv).mono x⟩, fun q => by omega, fun q => by omega, fun q => by omega⟩)
  refine ⟨_, run_beginRound hw1 (p7 rfl), ?_⟩
  refine W_sound hE (b0 := 0) (Nat.zero_le _) body _ (.inr ⟨b, rfl⟩) false (fun q => by cases q) hbd _ _ (fun e K2 ι2 st2 fr2 a2 w2 q s2 f2 z2 d2 => ?_) K1 ι1 _ fr1 a1 _ (.refl sB.rel) (f.mono sB.ext) z (d.step s.rel sB) hbody
  obtain ⟨hst2, hq⟩ := q
  have hl1' : (st1.set l (.loop fr ps asg body N 2 none))[l]? = some (.loop fr ps asg body N 2 none) := by
    have := (List.getElem?_eq_some_iff.1 hst1).1
    simp [this]
  have hb2 : ι2 l = .pointer (some ⟨b, 0, none⟩) := by rw [ι_loop s2.ext hl1', hb1]
  obtain ⟨r2, hw2, hl2⟩ := loopOf s2.rel hst2 hb2
  obtain ⟨⟨t1, t2, t3, t4, t5⟩, _⟩ := hl2 (by omega)
  have fin : ∀ (jump : Option Code) (s' : Nat), (s' = 0 ∧ jump = none ∨ s' = 1 ∧ jump.isNone = false) → ∀ v1, v1 = PV.bool jump.isNone → (v1 = v ∧ st2.set l (.loop fr ps asg body N s' jump) = st') →
      ∃ u w3, (Instr.endRound b jump).run E.P w2 = .ok u w3 ∧ ∃ (K' : Know) (ι' : Nat → Value) (rv : Value), Ending.returned u = .returned rv ∧ Stp E.G K ι st w K' ι' st' w3 ∧ VRel K' ι' st' v rv := by
    rintro jump s' hs' v1 rfl ⟨rfl, rfl⟩
    have sC := Stp.loopSet s2.rel l hst2 (fr' := fr) (ps' := ps) (asg' := asg) (body' := body) (nt' := N) (s' := s') (pd' := jump) hb2 hw2 (l' := { r2 with state := if jump.isNone then .ready else .done, pending := jump })
      (fun x _ => ⟨⟨t1, t2, t3, t4, fun t v hv => (t5 t v hv).mono x⟩, fun _ => rfl, fun q => by
        rcases hs' with ⟨_, rfl⟩ | ⟨e, _⟩
        · rfl
        · omega, fun q => by
        rcases hs' with ⟨e, _⟩ | ⟨_, e⟩
        · omega
        · simp only [e]; rfl⟩)
    exact ⟨_, _, run_endRound hw2 jump, K2, ι2, _, rfl, (s.trans sB).trans (s2.trans sC), .tree _ _ (.bool _)⟩
  cases e with
  | normal => exact fin none 0 (.inl ⟨rfl, rfl⟩) _ rfl hq
  | ret => exact fin (some .ret) 1 (.inr ⟨rfl, rfl⟩) _ rfl hq
  | exit i => exact fin (some (.exit i)) 1 (.inr ⟨rfl, rfl⟩) _ rfl hq
  | goto _ => exact hq.elim
  | panic _ => exact hq.elim
  | outgrown => exact hq.elim

end Go.Pv
end
section
namespace Go.Pv

@[congr] theorem W_congr {E : Env} {N : Nat} {c : Code} {fr fr' : Fr} {st st' : Store} {Q : Exit → Fr → Store → Prop} (h : fr = fr') (h' : st = st') : W E N c fr st Q = W E N c fr' st' Q := by rw [h, h']
@[congr] theorem OpsW_congr {E : Env} {ops : Array Oper} {l : List Oper} {fr fr' : Fr} {st st' : Store} {K : Fr → Store → Prop} (h : fr = fr') (h' : st = st') : OpsW E ops l fr st K = OpsW E ops l fr' st' K := by rw [h, h']
@[congr] theorem StepR_congr {E : Env} {fr fr' : Fr} {st st' : Store} {o : Oper} {v v1 : PV} {s s1 : Store} (h : fr = fr') (h' : st = st') : StepR E fr st o v s = StepR E fr' st' o v s := by rw [h, h']
@[congr] theorem opF_congr' {E : Env} {ty : TypeId} {fr fr' : Fr} {st st' : Store} {op : Op} (h : fr = fr') (h' : st = st') : opF E ty fr st op = opF E ty fr' st' op := by rw [h, h']

/-- Code behind a test that is not decided yet. -/
def Wz (E : Env) (N : Nat) (c : Code) (fr : Fr) (st : Store) (Q : Exit → Fr → Store → Prop) : Prop := W E N c fr st Q
def OpsWz (E : Env) (ops : Array Oper) (l : List Oper) (fr : Fr) (st : Store) (K : Fr → Store → Prop) : Prop := OpsW E ops l fr st K
theorem Br_W1 {E N x fr st Q B} : Br true (Wz E N x fr st Q) B = W E N x fr st Q := by simp [Wz]
theorem Br_W2 {E N x fr st Q A} : Br false A (Wz E N x fr st Q) = W E N x fr st Q := by simp [Wz]
theorem Br_O1 {E ops l fr st K B} : Br true (OpsWz E ops l fr st K) B = OpsW E ops l fr st K := by simp [OpsWz]
theorem Br_O2 {E ops l fr st K A} : Br false A (OpsWz E ops l fr st K) = OpsW E ops l fr st K := by simp [OpsWz]
theorem Br_W {b E N x y fr st Q} (h : b = true → W E N x fr st Q) (h' : b = false → W E N y fr st Q) : Br b (Wz E N x fr st Q) (Wz E N y fr st Q) := Br.mk h h'
theorem Br_O {b E ops l fr st K l' fr' st' K'} (h : b = true → OpsW E ops l fr st K) (h' : b = false → OpsW E ops l' fr' st' K') : Br b (OpsWz E ops l fr st K) (OpsWz E ops l' fr' st' K') := Br.mk h h'

section
variable {E : Env} {N : Nat} {fr : Fr} {st : Store} {Q : Exit → Fr → Store → Prop}
theorem W_skip : W E N .skip fr st Q = Q .normal fr st := rfl
theorem W_region {id : Nat} {l : List Oper} : W E N (.region id l.toArray false) fr st Q = OpsW E l.toArray l fr st (Q .normal) := by
  unfold W
  rw [if_neg (by simp)]
theorem W_regionD {id : Nat} {l : List Oper} (h : E.xr id = false) : W E N (.region id l.toArray true) fr st Q = OpsW E l.toArray l fr st (Q .normal) := by
  unfold W
  rw [if_neg (by simp [h])]
theorem W_regionX {id : Nat} {l : List Oper} (h : E.xr id = true) : W E N (.region id l.toArray true) fr st Q = AnyW E l.toArray (Q .normal) l.length (Array.replicate l.length false) fr st := by
  unfold W
  rw [if_pos (by simp [h])]
  simp
theorem W_seq {a b : Code} : W E N (.seq a b) fr st Q = W E N a fr st fun e fr' st' => match e with | .normal => W E N b fr' st' Q | e => Q e fr' st' := rfl
theorem W_cond {c : Operand} {x y : Code} : W E N (.cond c x y) fr st Q = match evalO E fr c with | .bool b => Br b (Wz E N x fr st Q) (Wz E N y fr st Q) | _ => False := rfl
theorem W_block {id : Nat} {b : Code} : W E N (.block id b) fr st Q = W E N b fr st fun e fr' st' => match e with | .exit i => if i = id then Q .normal fr' st' else Q (.exit i) fr' st' | e => Q e fr' st' := rfl
theorem W_exit {i : Nat} : W E N (.exit i) fr st Q = Q (.exit i) fr st := rfl
theorem W_label {i : Nat} : W E N (.label i) fr st Q = Q .normal fr st := rfl
theorem W_ret : W E N .ret fr st Q = Q .ret fr st := rfl
theorem W_range {g : Operand} {ps : Array Tmp} {asg body : Code} : W E N (.rangeFunc g ps asg body) fr st Q = RangeW E N g ps.toList asg body fr st Q := rfl

theorem OpsW_nil {ops : Array Oper} {K : Fr → Store → Prop} : OpsW E ops [] fr st K = K fr st := rfl
theorem OpsW_app {ops : Array Oper} {K : Fr → Store → Prop} (l1 l2 : List Oper) : ∀ fr st, OpsW E ops (l1 ++ l2) fr st K = OpsW E ops l1 fr st fun fr st => OpsW E ops l2 fr st K := by
  induction l1 with
  | nil => intro fr st; rfl
  | cons o l ih => intro fr st; simp only [List.cons_append, OpsW, ih]
theorem OpsW_app' {ops : Array Oper} {K : Fr → Store → Prop} (l1 l2 : List Oper) : OpsW E ops (l1.append l2) fr st K = OpsW E ops l1 fr st fun fr st => OpsW E ops l2 fr st K := OpsW_app l1 l2 fr st

theorem StepR_opF {d : Option Tmp} {op : Op} {ty : TypeId} {pos : String} {af : Array Edge} {g : Option (Nat × Bool)} {v : PV} {st' : Store} (h : (match op with | .call _ => false | _ => true) = true) :
    StepR E fr st ⟨d, op, ty, pos, af, g⟩ v st' = (opF E ty fr st op = some (v, st')) := by
  cases op <;> first | rfl | cases h
theorem StepR_builtin {d : Option Tmp} {b : Builtin} {args ts} {ty : TypeId} {pos : String} {af : Array Edge} {g : Option (Nat × Bool)} {v : PV} {st' : Store} :
    StepR E fr st ⟨d, .call ⟨.builtin b, args, ts⟩, ty, pos, af, g⟩ v st' = (opF E ty fr st (.call ⟨.builtin b, args, ts⟩) = some (v, st')) := rfl
theorem StepR_value {d : Option Tmp} {x : Operand} {args ts} {ty : TypeId} {pos : String} {af : Array Edge} {g : Option (Nat × Bool)} {v : PV} {st' : Store} :
    StepR E fr st ⟨d, .call ⟨.value x, args, ts⟩, ty, pos, af, g⟩ v st' = CallR E fr st x ⟨.value x, args, ts⟩ v st' := rfl

/-- An operation without a guard, whose outcome is known. -/
theorem OpsW_op {ops : Array Oper} {K : Fr → Store → Prop} {d : Option Tmp} {op : Op} {ty : TypeId} {pos : String} {af : Array Edge} {rest : List Oper} (h : (match op with | .call c => (match c.callee with | .value _ => false | _ => true) | .next _ _ => false | .binOp _ _ _ (.const (.slice none 0 0)) _ => false | _ => true) = true) :
    OpsW E ops (⟨d, op, ty, pos, af, none⟩ :: rest) fr st K = match opF E ty fr st op with | some (v, st') => OpsW E ops rest (upd fr d v) st' K | none => False := by
  have e : ∀ v st', StepR E fr st ⟨d, op, ty, pos, af, none⟩ v st' = (opF E ty fr st op = some (v, st')) := by
    intro v st'
    refine stepR_op (o := ⟨d, op, ty, pos, af, none⟩) (fun c g e1 e2 => ?_)
    simp only at e1
    rw [e1] at h
    simp only at h
    rw [e2] at h
    cases h
  have hx : isNext op = false := by
    cases hq : isNext op with
    | false => rfl
    | true =>
      unfold isNext at hq
      split at hq <;> simp_all
  simp only [OpsW, guardF, Br_true]
  rw [stepW_other (o := ⟨d, op, ty, pos, af, none⟩) hx]
  simp only [e]
  cases opF E ty fr st op with
  | none => simp
  | some q =>
    obtain ⟨v, st'⟩ := q
    simp only [Option.some.injEq, Prod.mk.injEq]
    exact propext ⟨fun ⟨_, _, ⟨h1, h2⟩, h⟩ => by subst h1 h2; exact h, fun h => ⟨_, _, ⟨rfl, rfl⟩, h⟩⟩
theorem OpsW_call {ops : Array Oper} {K : Fr → Store → Prop} {d : Option Tmp} {x : Operand} {args ts} {ty : TypeId} {pos : String} {af : Array Edge} {rest : List Oper} :
    OpsW E ops (⟨d, .call ⟨.value x, args, ts⟩, ty, pos, af, none⟩ :: rest) fr st K = ∃ v st', CallR E fr st x ⟨.value x, args, ts⟩ v st' ∧ OpsW E ops rest (upd fr d v) st' K := by
  simp only [OpsW, guardF, Br_true]
  rw [stepW_other (by rfl)]
  rfl
/-- A range's step. -/
theorem OpsW_next {ops : Array Oper} {K : Fr → Store → Prop} {d : Option Tmp} {x : Operand} {s : Bool} {ty : TypeId} {pos : String} {af : Array Edge} {rest : List Oper} :
    OpsW E ops (⟨d, .next x s, ty, pos, af, none⟩ :: rest) fr st K = NextW E fr st (.next x s) fun v st' => OpsW E ops rest (upd fr d v) st' K := by
  simp only [OpsW, guardF, Br_true]
  rfl
/-- A slice compared with nil. -/
theorem OpsW_eqnil {ops : Array Oper} {K : Fr → Store → Prop} {d : Option Tmp} {x : Operand} {t ty2 : TypeId} {ty : TypeId} {pos : String} {af : Array Edge} {rest : List Oper} :
    OpsW E ops (⟨d, .binOp .eql t x (.const (.slice none 0 0)) ty2, ty, pos, af, none⟩ :: rest) fr st K = (isSlice E t ∧ NilW false (evalO E fr x) st fun v st' => OpsW E ops rest (upd fr d v) st' K) := by
  simp only [OpsW, guardF, Br_true]
  rfl
theorem OpsW_neqnil {ops : Array Oper} {K : Fr → Store → Prop} {d : Option Tmp} {x : Operand} {t ty2 : TypeId} {ty : TypeId} {pos : String} {af : Array Edge} {rest : List Oper} :
    OpsW E ops (⟨d, .binOp .neq t x (.const (.slice none 0 0)) ty2, ty, pos, af, none⟩ :: rest) fr st K = (isSlice E t ∧ NilW true (evalO E fr x) st fun v st' => OpsW E ops rest (upd fr d v) st' K) := by
  simp only [OpsW, guardF, Br_true]
  rfl
theorem NilW_sl {neq : Bool} {k : Nat} {es : List (List PV)} {tok : Tok} {K : PV → Store → Prop} : NilW neq (.sl k es tok) st K = ((es = [] → K (.bool true) st ∧ K (.bool false) st) ∧ (es ≠ [] → K (.bool neq) st)) := rfl
/-- With a guard: by what the guard's temporary holds. -/
theorem OpsW_guard {ops : Array Oper} {K : Fr → Store → Prop} {d : Option Tmp} {op : Op} {ty : TypeId} {pos : String} {af : Array Edge} {j : Nat} {b : Bool} {rest : List Oper} :
    OpsW E ops (⟨d, op, ty, pos, af, some (j, b)⟩ :: rest) fr st K =
      match (ops[j]?).bind (·.dst) with
      | none => OpsW E ops rest (upd fr d (.tup [])) st K
      | some t => match fr t with
        | .bool c => Br (c == b) (OpsWz E ops (⟨d, op, ty, pos, af, none⟩ :: rest) fr st K) (OpsWz E ops rest (upd fr d (.tup [])) st K)
        | .tup [] => OpsW E ops rest (upd fr d (.tup [])) st K
        | _ => False := by
  simp only [OpsWz, OpsW, guardF, Br_true]
  cases (ops[j]?).bind (·.dst) with
  | none => simp
  | some t =>
    simp only
    cases fr t with
    | bool c => rfl
    | tup vs => cases vs <;> simp
    | _ => rfl

theorem upd_some (fr : Fr) (d : Nat) (v : PV) (t : Nat) : upd fr (some d) v t = if t = d then v else fr t := rfl
theorem upd_none (fr : Fr) (v : PV) : upd fr none v = fr := rfl
end


/-- A call of a function with a plain contract. -/
theorem OpsW_pl {E : Env} {ops : Array Oper} {K : Fr → Store → Prop} {fr : Fr} {st : Store} {d : Option Tmp} {f : FuncId} {args ts} {ty : TypeId} {pos : String} {af : Array Edge} {rest : List Oper} {xs : List PV} {r : PV} (h : Plain E f xs r) (hp : E.pl f = true) (hsz : args.size = ts.size)
    (hx : strips (callArgs E fr ⟨.value (.func f), args, ts⟩) = some xs) (k : OpsW E ops rest (upd fr d r) st K) : OpsW E ops (⟨d, .call ⟨.value (.func f), args, ts⟩, ty, pos, af, none⟩ :: rest) fr st K := by
  rw [OpsW_call]
  refine ⟨r, st, ⟨hsz, ?_⟩, k⟩
  simp only [evalO, if_pos hp]
  exact ⟨trivial, trivial, xs, hx, h⟩
/-- A call of a function with a contract. -/
theorem OpsW_sp {E : Env} {ops : Array Oper} {K : Fr → Store → Prop} {fr : Fr} {st : Store} {d : Option Tmp} {g : Operand} {f : FuncId} {caps : List PV} {args ts} {ty : TypeId} {pos : String} {af : Array Edge} {rest : List Oper} {xs : List PV} {r : PV} {st' : Store} (h : Spec E f xs st r st') (hg : evalO E fr g = .fn f caps) (hp : E.pl f = false)
    (hsz : args.size = ts.size) (hx : callArgs E fr ⟨.value g, args, ts⟩ ++ caps = xs) (k : OpsW E ops rest (upd fr d r) st' K) : OpsW E ops (⟨d, .call ⟨.value g, args, ts⟩, ty, pos, af, none⟩ :: rest) fr st K := by
  rw [OpsW_call]
  refine ⟨r, st', ⟨hsz, ?_⟩, k⟩
  simp only [hg, hp]
  subst hx
  exact h
/-- A call of a loop's yield. -/
theorem OpsW_yield {E : Env} {ops : Array Oper} {K : Fr → Store → Prop} {fr : Fr} {st : Store} {d : Option Tmp} {g : Operand} {l : Nat} {args ts} {ty : TypeId} {pos : String} {af : Array Edge} {rest : List Oper} {xs : List PV} {r : PV} {st' : Store} (h : YSpec E l xs st r st') (hg : evalO E fr g = .yld l)
    (hsz : args.size = ts.size) (hx : callArgs E fr ⟨.value g, args, ts⟩ = xs) (k : OpsW E ops rest (upd fr d r) st' K) : OpsW E ops (⟨d, .call ⟨.value g, args, ts⟩, ty, pos, af, none⟩ :: rest) fr st K := by
  rw [OpsW_call]
  refine ⟨r, st', ⟨hsz, ?_⟩, k⟩
  simp only [hg]
  subst hx
  exact h

theorem range1 : List.range 1 = [0] := rfl
theorem range2 : List.range 2 = [0, 1] := rfl
theorem range3 : List.range 3 = [0, 1, 2] := rfl
theorem range4 : List.range 4 = [0, 1, 2, 3] := rfl

def stripT : Tok → Tok | .own _ => .ro | t => t
theorem strip_sl (k : Nat) (es : List (List PV)) (t : Tok) : strip1 (.sl k es t) = some (.sl k es (stripT t)) := by
  cases t <;> simp [strip1, tokRo, cellOk, stripT]
theorem strip_int (k : IntKind) (n : Int) : strip1 (.int k n) = some (.int k n) := by simp [strip1, tokRo, cellOk]
theorem strip_bool (b : Bool) : strip1 (.bool b) = some (.bool b) := by simp [strip1, tokRo, cellOk]
theorem strip_str (s : List UInt8) : strip1 (.str s) = some (.str s) := by simp [strip1, tokRo, cellOk]
theorem pub_int (st : Store) (n : Nat) (k : IntKind) (x : Int) : pub st (n + 1) (.int k x) = some (.int k x) := by simp [pub, cellOk, tokRo]
theorem pub_bool (st : Store) (n : Nat) (b : Bool) : pub st (n + 1) (.bool b) = some (.bool b) := by simp [pub, cellOk, tokRo]
theorem pub_str (st : Store) (n : Nat) (s : List UInt8) : pub st (n + 1) (.str s) = some (.str s) := by simp [pub, cellOk, tokRo]
theorem pub_sl (st : Store) (n : Nat) (k : Nat) (es : List (List PV)) (t : Tok) : pub st (n + 1) (.sl k es t) = some (.sl k es (stripT t)) := by cases t <;> simp [pub, cellOk, tokRo, stripT]

theorem idxN_nat {k : IntKind} (i : Nat) : idxN (.int k (i : Int)) = some i := by simp [idxN]
theorem idxN_lit {k : IntKind} (n : Nat) : idxN (.int k (OfNat.ofNat n)) = some n := idxN_nat n

/-- A loop: a relation that each round keeps, a number that each round lessens. -/
theorem W_loop {E : Env} {N : Nat} {b : Code} {Q : Exit → Fr → Store → Prop} (I : Nat → Fr → Store → Prop) (hs : ∀ n fr st, I n fr st → W E N b fr st fun e fr' st' => match e with | .normal => ∃ m, m < n ∧ I m fr' st' | e => Q e fr' st') :
    ∀ n fr st, I n fr st → W E N (.loop b) fr st Q := by
  have key : ∀ k n fr st, n ≤ k → I n fr st → LoopW (fun fr st Q => W E N b fr st Q) Q (k + 1) fr st := by
    intro k
    induction k with
    | zero =>
      intro n fr st hn hI
      refine W.mono b _ _ (fun e fr' st' q => ?_) fr st (hs n fr st hI)
      cases e <;> first | exact q | skip
      obtain ⟨m, hm, _⟩ := q
      omega
    | succ k ih =>
      intro n fr st hn hI
      refine W.mono b _ _ (fun e fr' st' q => ?_) fr st (hs n fr st hI)
      cases e <;> first | exact q | skip
      obtain ⟨m, hm, hm'⟩ := q
      exact ih m fr' st' (by omega) hm'
  intro n fr st hI
  exact ⟨n + 1, key n n fr st (Nat.le_refl _) hI⟩
end Go.Pv
end
section
namespace Go.Pv

/-- Is there one outcome alone: no step of a range over a map, no region whose orders are all looked at? -/
def dtC (xr : Nat → Bool) : Code → Bool
  | .region id ops draw => (ops.all fun o => !isNext o.op) && !(draw && xr id)
  | .seq a b => dtC xr a && dtC xr b
  | .cond _ x y => dtC xr x && dtC xr y
  | .block _ b => dtC xr b
  | .loop b => dtC xr b
  | _ => true
theorem OpsW_pick {E : Env} {ops : Array Oper} {K : Fr → Store → Prop} : ∀ (l : List Oper) (fr : Fr) (st : Store), (∀ o ∈ l, isNext o.op = false) → OpsW E ops l fr st K → ∃ fr1 st1, K fr1 st1 ∧ OpsW E ops l fr st fun fr' st' => fr' = fr1 ∧ st' = st1
  | [], fr, st, _, h => ⟨fr, st, h, rfl, rfl⟩
  | o :: rest, fr, st, hx, h => by
    unfold OpsW at h
    rw [stepW_other (hx o (by simp))] at h
    have hx' : ∀ o ∈ rest, isNext o.op = false := fun o ho => hx o (by simp [ho])
    cases hg : guardF ops fr o with
    | none => rw [hg] at h; exact h.elim
    | some g =>
      rw [hg] at h
      cases g with
      | true =>
        obtain ⟨v, st', hs, h⟩ := h.1 rfl
        obtain ⟨fr1, st1, hk, hw⟩ := OpsW_pick rest _ _ hx' h
        refine ⟨fr1, st1, hk, ?_⟩
        unfold OpsW
        rw [hg, stepW_other (hx o (by simp))]
        exact Br.mk (fun _ => ⟨v, st', hs, hw⟩) (fun q => by cases q)
      | false =>
        obtain ⟨fr1, st1, hk, hw⟩ := OpsW_pick rest _ _ hx' (h.2 rfl)
        refine ⟨fr1, st1, hk, ?_⟩
        unfold OpsW
        rw [hg]
        exact Br.mk (fun q => by cases q) (fun _ => hw)

def Picks (E : Env) (N : Nat) (c : Code) : Prop := ∀ (fr : Fr) (st : Store) (Q : Exit → Fr → Store → Prop), W E N c fr st Q → ∃ e fr1 st1, Q e fr1 st1 ∧ W E N c fr st fun e' fr' st' => e' = e ∧ fr' = fr1 ∧ st' = st1

theorem LoopW_pick {E : Env} {N : Nat} {b : Code} (hb : Picks E N b) {Q : Exit → Fr → Store → Prop} : ∀ n fr st, LoopW (fun fr st Q => W E N b fr st Q) Q n fr st → ∃ e fr1 st1, Q e fr1 st1 ∧ LoopW (fun fr st Q => W E N b fr st Q) (fun e' fr' st' => e' = e ∧ fr' = fr1 ∧ st' = st1) n fr st
  | 0, _, _, h => h.elim
  | n + 1, fr, st, h => by
    obtain ⟨e, fr1, st1, hq, hw⟩ := hb fr st _ h
    cases e
    case normal =>
      obtain ⟨e2, fr2, st2, hq2, hw2⟩ := LoopW_pick hb n fr1 st1 hq
      refine ⟨e2, fr2, st2, hq2, ?_⟩
      exact W.mono b _ _ (fun e' fr' st' q => by obtain ⟨rfl, rfl, rfl⟩ := q; exact hw2) fr st hw
    all_goals
      refine ⟨_, fr1, st1, hq, ?_⟩
      exact W.mono b _ _ (fun e' fr' st' q => by obtain ⟨rfl, rfl, rfl⟩ := q; exact ⟨rfl, rfl, rfl⟩) fr st hw

theorem W_pick {E : Env} {N : Nat} : ∀ (c : Code), dtC E.xr c = true → Picks E N c
  | .skip, _, fr, st, Q, h => ⟨.normal, fr, st, h, rfl, rfl, rfl⟩
  | .region id ops d, hd, fr, st, Q, h => by
    simp only [dtC, Bool.and_eq_true] at hd
    have hn : ¬ (d && E.xr id) = true := by
      have := hd.2
      cases d <;> simp_all
    unfold W at h
    rw [if_neg hn] at h
    obtain ⟨fr1, st1, hk, hw⟩ := OpsW_pick ops.toList fr st (fun o ho => by
      have := hd.1
      rw [Array.all_eq_true_iff_forall_mem] at this
      simpa using this o (by simpa using ho)) h
    refine ⟨.normal, fr1, st1, hk, ?_⟩
    unfold W
    rw [if_neg hn]
    exact OpsW.mono (fun _ _ q => ⟨rfl, q.1, q.2⟩) _ _ _ hw
  | .seq a b, hd, fr, st, Q, h => by
    simp only [dtC, Bool.and_eq_true] at hd
    obtain ⟨e, fr1, st1, hq, hw⟩ := W_pick a hd.1 fr st _ h
    cases e
    case normal =>
      obtain ⟨e2, fr2, st2, hq2, hw2⟩ := W_pick b hd.2 fr1 st1 _ hq
      refine ⟨e2, fr2, st2, hq2, ?_⟩
      exact W.mono a _ _ (fun e' fr' st' q => by obtain ⟨rfl, rfl, rfl⟩ := q; exact hw2) fr st hw
    all_goals
      refine ⟨_, fr1, st1, hq, ?_⟩
      exact W.mono a _ _ (fun e' fr' st' q => by obtain ⟨rfl, rfl, rfl⟩ := q; exact ⟨rfl, rfl, rfl⟩) fr st hw
  | .cond c x y, hd, fr, st, Q, h => by
    simp only [dtC, Bool.and_eq_true] at hd
    rw [W_cond] at h
    cases hc : evalO E fr c <;> rw [hc] at h <;> try exact h.elim
    rename_i b
    cases b with
    | true =>
      obtain ⟨e, fr1, st1, hq, hw⟩ := W_pick x hd.1 fr st Q (h.1 rfl)
      exact ⟨e, fr1, st1, hq, by rw [W_cond, hc]; exact Br.mk (fun _ => hw) (fun q => by cases q)⟩
    | false =>
      obtain ⟨e, fr1, st1, hq, hw⟩ := W_pick y hd.2 fr st Q (h.2 rfl)
      exact ⟨e, fr1, st1, hq, by rw [W_cond, hc]; exact Br.mk (fun q => by cases q) (fun _ => hw)⟩
  | .block id b, hd, fr, st, Q, h => by
    simp only [dtC] at hd
    obtain ⟨e, fr1, st1, hq, hw⟩ := W_pick b hd fr st _ h
    cases e
    case exit i =>
      by_cases hi : i = id
      · refine ⟨.normal, fr1, st1, by simpa [hi] using hq, ?_⟩
        exact W.mono b _ _ (fun e' fr' st' q => by obtain ⟨rfl, rfl, rfl⟩ := q; simp [hi]) fr st hw
      · refine ⟨.exit i, fr1, st1, by simpa [hi] using hq, ?_⟩
        exact W.mono b _ _ (fun e' fr' st' q => by obtain ⟨rfl, rfl, rfl⟩ := q; simp [hi]) fr st hw
    all_goals
      refine ⟨_, fr1, st1, hq, ?_⟩
      exact W.mono b _ _ (fun e' fr' st' q => by obtain ⟨rfl, rfl, rfl⟩ := q; exact ⟨rfl, rfl, rfl⟩) fr st hw
  | .loop b, hd, fr, st, Q, h => by
    simp only [dtC] at hd
    obtain ⟨n, h⟩ := h
    obtain ⟨e, fr1, st1, hq, hw⟩ := LoopW_pick (W_pick b hd) n fr st h
    exact ⟨e, fr1, st1, hq, n, hw⟩
  | .exit i, _, fr, st, Q, h => ⟨.exit i, fr, st, h, rfl, rfl, rfl⟩
  | .label _, _, fr, st, Q, h => ⟨.normal, fr, st, h, rfl, rfl, rfl⟩
  | .ret, _, fr, st, Q, h => ⟨.ret, fr, st, h, rfl, rfl, rfl⟩
  | .rangeFunc g ps asg body, _, fr, st, Q, h => by
    rw [W_range] at h
    unfold RangeW at h
    cases hg : evalO E fr g <;> rw [hg] at h <;> try exact h.elim
    obtain ⟨v, st1, a1, fr1, ps1, asg1, body1, nt1, s, pd, a2, a3, a4⟩ := h
    have fin : ∀ e, (match pd with | none => e = Exit.normal | some .ret => e = .ret | some (.exit i) => e = .exit i | _ => False) → Q e fr (st1.set st.length deadLoop) →
        ∃ e fr2 st2, Q e fr2 st2 ∧ W E N (.rangeFunc g ps asg body) fr st fun e' fr' st' => e' = e ∧ fr' = fr2 ∧ st' = st2 := by
      intro e he hq
      refine ⟨e, fr, _, hq, ?_⟩
      rw [W_range]
      unfold RangeW
      rw [hg]
      refine ⟨v, st1, a1, fr1, ps1, asg1, body1, nt1, s, pd, a2, a3, ?_⟩
      split at he <;> first | (subst he; exact ⟨rfl, rfl, rfl⟩) | exact he.elim
    split at a4
    · exact fin .normal rfl a4
    · exact fin .ret rfl a4
    · exact fin _ rfl a4
    · exact a4.elim
  | .goto _, _, _, _, _, h => h.elim
  | .scope _, _, _, _, _, h => h.elim
  | .refuse _, _, _, _, _, h => h.elim

/-- A contract whose end is told by a relation. -/
def SpecQ (E : Env) (f : FuncId) (args : List PV) (st : Store) (Q : PV → Store → Prop) : Prop := ∃ v st', Spec E f args st v st' ∧ Q v st'
theorem specQ_of_W {E : Env} (hE : EnvOk E) {f : FuncId} {N : Nat} {rs : List ResultVar} {c : Code} (hok : FnOk E f N rs c) {args : List PV} {st : Store} {Q : PV → Store → Prop} (hl : args.length ≤ N) (hd : dtC E.xr c = true) (h : BodyW E N rs c args st Q) : SpecQ E f args st Q := by
  obtain ⟨e, fr1, st1, ⟨he, v, hv, hq⟩, hw⟩ := W_pick c hd _ _ _ h
  refine ⟨v, st1, spec_of_W hE hok hl (W.mono c _ _ (fun e' fr' st' q => ?_) _ _ hw), hq⟩
  obtain ⟨rfl, rfl, rfl⟩ := q
  exact ⟨he, v, hv, rfl, rfl⟩

def YSpecQ (E : Env) (l : Nat) (args : List PV) (st : Store) (Q : PV → Store → Prop) : Prop := ∃ v st', YSpec E l args st v st' ∧ Q v st'
theorem yspecQ_of_W {E : Env} (hE : EnvOk E) {N l : Nat} {fr : Fr} {ps : List Nat} {asg body : Code} {args : List PV} {st : Store} {Q : PV → Store → Prop} (hst : st[l]? = some (.loop fr ps asg body N 0 none))
    (ha : okC E.pl E.xr N false asg = true) (hbd : okC E.pl E.xr N false body = true) (hl : args.length = ps.length) (hda : dtC E.xr asg = true) (hdb : dtC E.xr body = true) (h : RoundW E N l fr ps asg body args st Q) : YSpecQ E l args st Q := by
  unfold RoundW at h
  obtain ⟨e, fr1, st1, ⟨rfl, h1, h2⟩, hw⟩ := W_pick asg hda _ _ _ h
  obtain ⟨e2, fr2, st2, ⟨h3, h4⟩, hw2⟩ := W_pick body hdb _ _ _ h2
  have go : ∀ v st', (∀ (R : PV → Store → Prop), R v st' → (match e2 with
      | .normal => R (.bool true) (st2.set l (.loop fr ps asg body N 0 none))
      | .ret => R (.bool false) (st2.set l (.loop fr ps asg body N 1 (some .ret)))
      | .exit i => R (.bool false) (st2.set l (.loop fr ps asg body N 1 (some (.exit i))))
      | _ => False)) → Q v st' → YSpecQ E l args st Q := by
    intro v st' hv hq
    refine ⟨v, st', yspec_of_W hE hst ha hbd hl ?_, hq⟩
    unfold RoundW
    refine W.mono asg _ _ (fun e' fr' st'' q => ?_) _ _ hw
    obtain ⟨rfl, rfl, rfl⟩ := q
    refine ⟨rfl, h1, W.mono body _ _ (fun e' fr' st'' q => ?_) _ _ hw2⟩
    obtain ⟨rfl, rfl, rfl⟩ := q
    refine ⟨h3, ?_⟩
    have q := hv (fun v1 st1 => v1 = v ∧ st1 = st') ⟨rfl, rfl⟩
    clear hv
    cases e' <;> exact q
  cases e2 with
  | normal => exact go _ _ (fun R r => r) h4
  | ret => exact go _ _ (fun R r => r) h4
  | exit i => exact go _ _ (fun R r => r) h4
  | goto _ => exact h4.elim
  | panic _ => exact h4.elim
  | outgrown => exact h4.elim

/-! ### Stores -/
theorem get_last (l : Store) (x : Ob) : (l ++ [x])[l.length]? = some x := by simp
theorem set_last (l : Store) (x y : Ob) : (l ++ [x]).set l.length y = l ++ [y] := by simp
theorem get_lt {st : Store} {i : Nat} {o : Ob} (h : st[i]? = some o) : i < st.length := (List.getElem?_eq_some_iff.1 h).1
theorem get_set_ne {st : Store} {i j : Nat} (o : Ob) (h : i ≠ j) : (st.set i o)[j]? = st[j]? := List.getElem?_set_ne h
theorem get_set_eq {st : Store} {i : Nat} (h : i < st.length) (o' : Ob) : (st.set i o')[i]? = some o' := by simp [h]

end Go.Pv
end
