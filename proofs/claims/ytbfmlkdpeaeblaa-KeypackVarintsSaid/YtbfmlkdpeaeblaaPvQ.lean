/-
  The pure machine, part Q: a region that draws its order of evaluation: when the order of the text stands for every order.
-/
import Derived.Test.YtbfmlkdpeaeblaaPvP
set_option linter.all false
set_option linter.unusedSimpArgs false
set_option linter.unusedVariables false
namespace Go.Pv

inductive Eff where
  | n | r | a | w
  deriving DecidableEq

/-- What an operation has to do with the store: nothing; it reads; it lays something new; it may change it. -/
def effO (pl : FuncId → Bool) (o : Oper) : Eff :=
  match o.op with
  | .call c => (match c.callee with
    | .builtin .len => .r
    | .builtin .max | .builtin .min => .n
    | .value (.func f) => if pl f then .n else .w
    | _ => .w)
  | .load .. | .lookup .. | .slice .. => .r
  | .alloc _ | .box .. | .makeMap .. | .makeSlice .. => .a
  | .store .. | .mapUpdate .. => .w
  | _ => .n

def effPair : Eff → Eff → Bool
  | .n, _ | _, .n | .r, .r | .r, .a => true
  | _, _ => false

def tmpsOf (ops : Array Oper) (o : Oper) : List Nat := o.looksAt ops
def apartT (ops : Array Oper) (x y : Oper) : Bool :=
  (match x.dst with | some d => !(tmpsOf ops y).contains d && y.dst != some d | none => true) &&
  (match y.dst with | some d => !(tmpsOf ops x).contains d | none => true)

/-- May the order of the text stand for every order? -/
def drawOk (pl : FuncId → Bool) (ops : Array Oper) (B : List Nat) : Bool :=
  (List.range ops.size).all fun j => match ops[j]? with
    | none => false
    | some oj =>
      (oj.after.all fun e => !Region.binds .any e || decide (e.on < j)) &&
      ((B.getD j 0 == oj.after.foldl (fun s e => if Region.binds .any e then s ||| 2 ^ e.on ||| B.getD e.on 0 else s) 0) &&
      (List.range j).all fun i => (B.getD j 0).testBit i || match ops[i]? with
        | none => false
        | some oi => apartT ops oi oj && effPair (effO pl oi) (effO pl oj))

/-! ### What an operation looks at -/

theorem evalO_congr {E : Env} {fr fr' : Fr} {x : Operand} (h : ∀ t, x = .tmp t → fr' t = fr t) : evalO E fr' x = evalO E fr x := by
  cases x <;> simp [evalO]
  exact h _ rfl
theorem evalT_congr {E : Env} {t : TypeId} {fr fr' : Fr} {x : Operand} (h : ∀ t, x = .tmp t → fr' t = fr t) : evalT E t fr' x = evalT E t fr x := by
  unfold evalT
  split
  · rfl
  · exact evalO_congr h

theorem opF_congr {E : Env} {ty : TypeId} {fr fr' : Fr} {st : Store} {op : Op} (h : ∀ t, Operand.tmp t ∈ op.operands → fr' t = fr t) : opF E ty fr' st op = opF E ty fr st op := by
  have hO : ∀ x, x ∈ op.operands → evalO E fr' x = evalO E fr x := fun x hx => evalO_congr fun t e => h t (e ▸ hx)
  have hT : ∀ t x, x ∈ op.operands → evalT E t fr' x = evalT E t fr x := fun t x hx => evalT_congr fun t e => h t (e ▸ hx)
  cases op <;> try rfl
  case makeMap t r => cases r <;> rfl
  case move x => simp only [opF]; rw [hT ty x (by simp [Op.operands])]
  case assign x => simp only [opF]; rw [hT ty x (by simp [Op.operands])]
  case pick c a b => simp only [opF]; rw [hO c (by simp [Op.operands]), hO a (by simp [Op.operands]), hO b (by simp [Op.operands])]
  case box e x => simp only [opF]; rw [hT e x (by simp [Op.operands])]
  case build t parts =>
    have : (parts.toList.map fun q => (q.1, evalO E fr' q.2)) = parts.toList.map fun q => (q.1, evalO E fr q.2) :=
      List.map_congr_left fun q hq => by rw [hO q.2 (by simp only [Op.operands, List.mem_toArray, List.mem_map]; exact ⟨q, hq, rfl⟩)]
    simp only [opF]; rw [this]
  case buildSlice t len parts =>
    have e1 : ∀ e, (parts.toList.all fun q => (scal (evalT E e fr' q.2) || isAgg (evalT E e fr' q.2)) && (cellsOf (evalT E e fr' q.2)).length == (match E.T e with | some te => te.size | none => 0)) = parts.toList.all fun q => (scal (evalT E e fr q.2) || isAgg (evalT E e fr q.2)) && (cellsOf (evalT E e fr q.2)).length == (match E.T e with | some te => te.size | none => 0) := fun e => by
      rw [Bool.eq_iff_iff, List.all_eq_true, List.all_eq_true]
      exact forall_congr' fun q => forall_congr' fun hq => by rw [hT e q.2 (by simp only [Op.operands, List.mem_toArray, List.mem_map]; exact ⟨q, hq, rfl⟩)]
    have e2 : ∀ e, (parts.toList.map fun q => (cellsOf (evalT E e fr' q.2)).map tokRo) = parts.toList.map fun q => (cellsOf (evalT E e fr q.2)).map tokRo := fun e =>
      List.map_congr_left fun q hq => by rw [hT e q.2 (by simp only [Op.operands, List.mem_toArray, List.mem_map]; exact ⟨q, hq, rfl⟩)]
    simp only [opF]
    cases hti : E.T t with
    | none => rfl
    | some ti =>
      obtain ⟨k, s, z⟩ := ti
      cases k <;> try rfl
      rename_i e
      cases hte : E.T e with
      | none => simp only [hte]
      | some te =>
        have e1 := e1 e
        simp only [hte] at e1 ⊢
        rw [e1, e2 e]
  case load t x => simp only [opF]; rw [hO x (by simp [Op.operands])]
  case store t x y => simp only [opF]; rw [hO x (by simp [Op.operands]), hT t y (by simp [Op.operands])]
  case binOp op t x y _ => simp only [opF]; rw [hO x (by simp [Op.operands]), hO y (by simp [Op.operands])]
  case unOp op t x => simp only [opF]; rw [hO x (by simp [Op.operands])]
  case nilCheck x => simp only [opF]; rw [hO x (by simp [Op.operands])]
  case convert s d x => simp only [opF]; rw [hO x (by simp [Op.operands])]
  case makeFunc f first caps =>
    cases f <;> try rfl
    have : caps.toList.map (evalO E fr') = caps.toList.map (evalO E fr) := List.map_congr_left fun q hq => hO q (by simp [Op.operands]; exact .inr (by simpa using hq))
    simp only [opF]; rw [this]
  case makeSlice t l c => simp only [opF]; rw [hO l (by simp [Op.operands]), hO c (by simp [Op.operands])]
  case slice t x lo hi mx =>
    have o : ∀ y : Option Operand, (∀ z, y = some z → z ∈ (Op.slice t x lo hi mx).operands) → y.map (evalO E fr') = y.map (evalO E fr) := fun y hy => by
      cases y with
      | none => rfl
      | some z => simp [hO z (hy z rfl)]
    simp only [opF]
    rw [hO x (by simp [Op.operands]), o lo (fun z e => by subst e; simp [Op.operands]), o hi (fun z e => by subst e; simp [Op.operands]), o mx (fun z e => by subst e; simp [Op.operands])]
  case fieldAddr s x f => simp only [opF]; rw [hO x (by simp [Op.operands])]
  case field t x f => simp only [opF]; rw [hO x (by simp [Op.operands])]
  case indexAddr t x i => simp only [opF]; rw [hO x (by simp [Op.operands]), hO i (by simp [Op.operands])]
  case index t x i => simp only [opF]; rw [hO x (by simp [Op.operands]), hO i (by simp [Op.operands])]
  case lookup t m k ok => simp only [opF]; rw [hO m (by simp [Op.operands]), hO k (by simp [Op.operands])]
  case mapUpdate t m k x =>
    have : ∀ tv, evalT E tv fr' x = evalT E tv fr x := fun tv => hT tv x (by simp [Op.operands])
    simp only [opF]; rw [hO m (by simp [Op.operands]), hO k (by simp [Op.operands])]
    simp only [this]
  case extract t i => simp only [opF]; rw [hO t (by simp [Op.operands])]
  case call c =>
    obtain ⟨callee, args, argTypes⟩ := c
    cases callee <;> try rfl
    have : ((args.toList.zip argTypes.toList).map fun q => evalT E q.2 fr' q.1) = (args.toList.zip argTypes.toList).map fun q => evalT E q.2 fr q.1 :=
      List.map_congr_left fun q hq => hT q.2 q.1 (by
        have := (List.of_mem_zip hq).1
        simp [Op.operands, Call.operands]; simpa using this)
    simp only [opF]; rw [this]

theorem stepR_call {E : Env} {fr : Fr} {st : Store} {o : Oper} {v : PV} {st' : Store} {c : Call} {g : Operand} (hop : o.op = .call c) (hc : c.callee = .value g) : StepR E fr st o v st' = CallR E fr st g c v st' := by
  unfold StepR
  rw [hop]
  simp only [hc]
theorem stepR_op {E : Env} {fr : Fr} {st : Store} {o : Oper} {v : PV} {st' : Store} (h : ∀ c g, o.op = .call c → c.callee ≠ .value g) : StepR E fr st o v st' = (opF E o.type fr st o.op = some (v, st')) := by
  unfold StepR
  split
  · rename_i c hop
    split
    · rename_i g hc; exact absurd hc (h c g hop)
    · rw [hop]
  · rfl

theorem stepR_congr {E : Env} {fr fr' : Fr} {st : Store} {o : Oper} {v : PV} {st' : Store} (h : ∀ t, Operand.tmp t ∈ o.op.operands → fr' t = fr t) (s : StepR E fr st o v st') : StepR E fr' st o v st' := by
  by_cases hc : ∃ c g, o.op = .call c ∧ c.callee = .value g
  · obtain ⟨c, g, hop, hc⟩ := hc
    rw [stepR_call hop hc] at s ⊢
    have hops : o.op.operands = #[g] ++ c.args := by rw [hop]; simp [Op.operands, Call.operands, hc]
    have e1 : evalO E fr' g = evalO E fr g := evalO_congr fun t e => h t (by rw [hops, ← e]; simp)
    have e2 : callArgs E fr' c = callArgs E fr c := List.map_congr_left fun q hq => evalT_congr fun t e => h t (by
      have := (List.of_mem_zip hq).1
      rw [hops, ← e]; simp at this ⊢; exact .inr this)
    unfold CallR at s ⊢
    rw [e1, e2]
    exact s
  · have hn : ∀ c g, o.op = .call c → c.callee ≠ .value g := fun c g e1 e2 => hc ⟨c, g, e1, e2⟩
    rw [stepR_op hn] at s ⊢
    rw [← s]
    exact opF_congr fun t ht => h t ht

/-! ### The effects -/

theorem callB_n {E : Env} {st : Store} {b : Builtin} {ts : List TypeId} {xs : List PV} (hb : b = .max ∨ b = .min) : callB E st b ts xs = (callB E [] b ts xs).map fun q => (q.1, st) := by
  rcases hb with rfl | rfl <;> unfold callB <;> split <;> (try contradiction) <;> (try rfl) <;> (split <;> rfl)

theorem opF_n {E : Env} {ty : TypeId} {fr : Fr} {o : Oper} {pl : FuncId → Bool} (h : effO pl o = .n) (hn : ∀ c g, o.op = .call c → c.callee ≠ .value g) (st : Store) : opF E ty fr st o.op = (opF E ty fr [] o.op).map fun q => (q.1, st) := by
  obtain ⟨dst, op, ty', pos, after, guard⟩ := o
  cases op <;> simp only [effO] at h <;> (try cases h; done) <;> (try rfl)
  case makeFunc f first caps => cases f <;> first | rfl | (simp only [opF]; split <;> rfl)
  all_goals simp only [opF]
  case call c =>
    obtain ⟨callee, args, argTypes⟩ := c
    cases callee with
    | builtin b =>
      have hb : b = .max ∨ b = .min := by cases b <;> simp at h <;> simp
      simp only
      split
      · exact callB_n hb
      · rfl
    | value g => exact absurd rfl (hn _ g rfl)
    | invoke r m => rfl
  all_goals repeat' split
  all_goals first | rfl | (simp only [Option.map_map]; rfl)

theorem opF_a {E : Env} {ty : TypeId} {fr : Fr} {st st' : Store} {v : PV} {o : Oper} {pl : FuncId → Bool} (h : effO pl o = .a) (hn : ∀ c g, o.op = .call c → c.callee ≠ .value g) (ho : opF E ty fr st o.op = some (v, st')) : ∃ x, st' = st ++ x := by
  obtain ⟨dst, op, ty', pos, after, guard⟩ := o
  cases op
  case call c =>
    obtain ⟨callee, args, argTypes⟩ := c
    cases callee with
    | builtin b => cases b <;> cases h
    | invoke r m => cases h
    | value g => exact absurd rfl (hn _ g rfl)
  case makeMap t r => cases r <;> simp [opF] at ho; exact ⟨_, ho.2.symm⟩
  all_goals simp only [effO] at h
  all_goals (try cases h; done)
  all_goals simp only [opF] at ho
  all_goals (repeat' split at ho) <;> (try cases ho; done)
  all_goals (simp only [Option.some.injEq, Prod.mk.injEq] at ho; exact ⟨_, ho.2.symm⟩)

theorem get_app {st x : Store} {id : Nat} {o : Ob} (h : st[id]? = some o) : (st ++ x)[id]? = some o := by
  rw [List.getElem?_append_left (List.getElem?_eq_some_iff.1 h).1]; exact h

theorem opF_r {E : Env} {ty : TypeId} {fr : Fr} {st st' : Store} {v : PV} {o : Oper} {pl : FuncId → Bool} (h : effO pl o = .r) (hn : ∀ c g, o.op = .call c → c.callee ≠ .value g) (ho : opF E ty fr st o.op = some (v, st')) : st' = st ∧ ∀ x, opF E ty fr (st ++ x) o.op = some (v, st ++ x) := by
  obtain ⟨dst, op, ty', pos, after, guard⟩ := o
  cases op
  case call c =>
    obtain ⟨callee, args, argTypes⟩ := c
    cases callee with
    | invoke r m => cases h
    | value g => exact absurd rfl (hn _ g rfl)
    | builtin b =>
      cases b
      case len =>
        simp only [opF] at ho ⊢
        split at ho
        · rename_i hsz
          simp only [if_pos hsz]
          unfold callB at ho ⊢
          split at ho <;> (try contradiction) <;> (try cases ho; done)
          rename_i t x heq
          split at ho
          · cases ho
          · rename_i ti hT
            split at ho
            · simp only [Option.some.injEq, Prod.mk.injEq] at ho; obtain ⟨rfl, rfl⟩ := ho; exact ⟨rfl, fun _ => rfl⟩
            · simp only [Option.some.injEq, Prod.mk.injEq] at ho; obtain ⟨rfl, rfl⟩ := ho; exact ⟨rfl, fun _ => rfl⟩
            · simp only [Option.some.injEq, Prod.mk.injEq] at ho; obtain ⟨rfl, rfl⟩ := ho; exact ⟨rfl, fun _ => rfl⟩
            · simp only [Option.some.injEq, Prod.mk.injEq] at ho; obtain ⟨rfl, rfl⟩ := ho; exact ⟨rfl, fun _ => rfl⟩
            · split at ho
              · rename_i hst
                simp only [Option.some.injEq, Prod.mk.injEq] at ho
                obtain ⟨rfl, rfl⟩ := ho
                exact ⟨rfl, fun x => by simp only [get_app hst]⟩
              · cases ho
            · cases ho
        · cases ho
      all_goals cases h
  case load t x =>
    simp only [opF] at ho ⊢
    split at ho
    · obtain ⟨p, hp, q⟩ := Option.map_eq_some_iff.1 ho
      simp only [Prod.mk.injEq] at q
      obtain ⟨rfl, rfl⟩ := q
      exact ⟨rfl, fun x => by rw [hp]; rfl⟩
    · split at ho
      · rename_i hst
        split at ho
        · rename_i htot
          obtain ⟨p, hp, q⟩ := Option.map_eq_some_iff.1 ho
          simp only [Prod.mk.injEq] at q
          obtain ⟨rfl, rfl⟩ := q
          exact ⟨rfl, fun x => by simp only [get_app hst, if_pos htot, hp]; rfl⟩
        · cases ho
      · cases ho
    · cases ho
  case lookup t m k ok =>
    simp only [opF] at ho ⊢
    split at ho
    · split at ho
      · split at ho
        · rename_i hk
          simp only [if_pos hk]
          split at ho
          · rename_i es hes
            have hes' : ∀ x, mapEs (st ++ x) (evalO E fr m) = some es := fun x => by
              unfold mapEs at hes ⊢
              split at hes
              · exact hes
              · split at hes
                · rename_i hst; simp only [get_app hst]; exact hes
                · cases hes
              · cases hes
            simp only [hes']
            split at ho
            · simp only [Option.some.injEq, Prod.mk.injEq] at ho; obtain ⟨rfl, rfl⟩ := ho; exact ⟨rfl, fun _ => rfl⟩
            · simp only [Option.some.injEq, Prod.mk.injEq] at ho; obtain ⟨rfl, rfl⟩ := ho; exact ⟨rfl, fun _ => rfl⟩
            · cases ho
          · cases ho
        · cases ho
      · cases ho
    · cases ho
  case slice t x lo hi mx =>
    simp only [opF] at ho ⊢
    split at ho
    · split at ho
      · split at ho
        · split at ho
          · rename_i hmx
            simp only [Option.some.injEq, Prod.mk.injEq] at ho; obtain ⟨rfl, rfl⟩ := ho; exact ⟨rfl, fun _ => by simp only [if_pos hmx]⟩
          · cases ho
        · cases ho
      · split at ho
        · split at ho
          · cases ho
          · rename_i hk
            simp only [Option.some.injEq, Prod.mk.injEq] at ho; obtain ⟨rfl, rfl⟩ := ho; exact ⟨rfl, fun _ => by simp only [if_neg hk]⟩
        · cases ho
      · split at ho
        · split at ho
          · rename_i hk
            simp only [Option.some.injEq, Prod.mk.injEq] at ho; obtain ⟨rfl, rfl⟩ := ho; exact ⟨rfl, fun _ => by simp only [if_pos hk]⟩
          · cases ho
        · cases ho
      · split at ho
        · rename_i hTe hst hsl
          split at ho
          · rename_i hk
            simp only [Option.some.injEq, Prod.mk.injEq] at ho; obtain ⟨rfl, rfl⟩ := ho; exact ⟨rfl, fun _ => by simp only [get_app hst, hTe, hsl, if_pos hk]⟩
          · cases ho
        · cases ho
      · cases ho
    · cases ho
  all_goals cases h

theorem stepR_n {E : Env} {fr : Fr} {st st' : Store} {v : PV} {o : Oper} (h : effO E.pl o = .n) (s : StepR E fr st o v st') : st' = st ∧ ∀ st1, StepR E fr st1 o v st1 := by
  by_cases hc : ∃ c g, o.op = .call c ∧ c.callee = .value g
  · obtain ⟨c, g, hop, hc⟩ := hc
    rw [stepR_call hop hc] at s
    unfold effO at h
    rw [hop] at h
    simp only [hc] at h
    cases g with
    | func f =>
      simp only at h
      split at h
      · rename_i hp
        unfold CallR at s
        simp only [evalO, if_pos hp] at s
        obtain ⟨s1, s2, s3, s4⟩ := s
        refine ⟨s3, fun st1 => ?_⟩
        rw [stepR_call hop hc]
        unfold CallR
        simp only [evalO, if_pos hp]
        exact ⟨s1, s2, trivial, s4⟩
      · cases h
    | _ => cases h
  · have hn : ∀ c g, o.op = .call c → c.callee ≠ .value g := fun c g e1 e2 => hc ⟨c, g, e1, e2⟩
    rw [stepR_op hn] at s
    rw [opF_n h hn st] at s
    obtain ⟨p, hp, q⟩ := Option.map_eq_some_iff.1 s
    simp only [Prod.mk.injEq] at q
    obtain ⟨rfl, rfl⟩ := q
    refine ⟨rfl, fun st1 => ?_⟩
    rw [stepR_op hn, opF_n h hn st1, hp]
    rfl

theorem effO_value {pl : FuncId → Bool} {o : Oper} {c : Call} {g : Operand} (hop : o.op = .call c) (hc : c.callee = .value g) : effO pl o = .n ∨ effO pl o = .w := by
  unfold effO
  rw [hop]
  simp only [hc]
  cases g with
  | func f => simp only; split <;> simp
  | _ => exact .inr rfl

theorem stepR_r {E : Env} {fr : Fr} {st st' : Store} {v : PV} {o : Oper} (h : effO E.pl o = .r) (s : StepR E fr st o v st') : st' = st ∧ ∀ x, StepR E fr (st ++ x) o v (st ++ x) := by
  have hn : ∀ c g, o.op = .call c → c.callee ≠ .value g := fun c g e1 e2 => by
    rcases effO_value (pl := E.pl) e1 e2 with q | q <;> rw [h] at q <;> cases q
  rw [stepR_op hn] at s
  obtain ⟨e, q⟩ := opF_r h hn s
  exact ⟨e, fun x => by rw [stepR_op hn]; exact q x⟩
theorem stepR_a {E : Env} {fr : Fr} {st st' : Store} {v : PV} {o : Oper} (h : effO E.pl o = .a) (s : StepR E fr st o v st') : ∃ x, st' = st ++ x := by
  have hn : ∀ c g, o.op = .call c → c.callee ≠ .value g := fun c g e1 e2 => by
    rcases effO_value (pl := E.pl) e1 e2 with q | q <;> rw [h] at q <;> cases q
  rw [stepR_op hn] at s
  exact opF_a h hn s

/-! ### The order of the text, taken apart -/

/-- What the operations do one after another. -/
def TrOk (E : Env) (ops : Array Oper) (fs : Nat → Fr) (ss : Nat → Store) (vs : Nat → PV) (wt : Nat → Bool) (i : Nat) (o : Oper) : Prop :=
  guardF ops (fs i) o = some (wt i) ∧ fs (i + 1) = upd (fs i) o.dst (vs i) ∧ (wt i = true → StepR E (fs i) (ss i) o (vs i) (ss (i + 1))) ∧ (wt i = false → vs i = .tup [] ∧ ss (i + 1) = ss i)

theorem OpsW.trace {E : Env} {ops : Array Oper} {K : Fr → Store → Prop} : ∀ (l : List Oper) (fr : Fr) (st : Store), OpsW E ops l fr st K →
    ∃ (fs : Nat → Fr) (ss : Nat → Store) (vs : Nat → PV) (wt : Nat → Bool), fs 0 = fr ∧ ss 0 = st ∧ (∀ (i : Nat) (o : Oper), l[i]? = some o → TrOk E ops fs ss vs wt i o) ∧ K (fs l.length) (ss l.length)
  | [], fr, st, h => ⟨fun _ => fr, fun _ => st, fun _ => .bad, fun _ => false, rfl, rfl, by simp, h⟩
  | o :: rest, fr, st, h => by
    unfold OpsW at h
    have h : (guardF ops fr o = some true ∧ ∃ v st', StepR E fr st o v st' ∧ OpsW E ops rest (upd fr o.dst v) st' K) ∨ (guardF ops fr o = some false ∧ OpsW E ops rest (upd fr o.dst (.tup [])) st K) := by
      split at h
      · rename_i g hg
        cases g with
        | true => exact .inl ⟨hg, h.1 rfl⟩
        | false => exact .inr ⟨hg, h.2 rfl⟩
      · exact h.elim
    rcases h with ⟨hg, h⟩ | ⟨hg, h⟩
    · obtain ⟨v, st', hs, h⟩ := h
      obtain ⟨fs, ss, vs, wt, h1, h2, h3, h4⟩ := OpsW.trace rest _ _ h
      refine ⟨fun | 0 => fr | i + 1 => fs i, fun | 0 => st | i + 1 => ss i, fun | 0 => v | i + 1 => vs i, fun | 0 => true | i + 1 => wt i, rfl, rfl, fun i o' hi => ?_, h4⟩
      cases i with
      | zero =>
        simp at hi; subst hi
        refine ⟨hg, h1, fun _ => by rw [← h2] at hs; exact hs, fun q => ?_⟩
        exact absurd q (by simp)
      | succ i => exact h3 i o' (by simpa using hi)
    · obtain ⟨fs, ss, vs, wt, h1, h2, h3, h4⟩ := OpsW.trace rest _ _ h
      refine ⟨fun | 0 => fr | i + 1 => fs i, fun | 0 => st | i + 1 => ss i, fun | 0 => .tup [] | i + 1 => vs i, fun | 0 => false | i + 1 => wt i, rfl, rfl, fun i o' hi => ?_, h4⟩
      cases i with
      | zero =>
        simp at hi; subst hi
        refine ⟨hg, h1, fun q => ?_, fun _ => ⟨rfl, h2⟩⟩
        exact absurd q (by simp)
      | succ i => exact h3 i o' (by simpa using hi)

/-! ### In whatever order -/
section canon
variable (ops : Array Oper) (L : Nat → Bool) (f0 : Fr) (s0 : Store) (vs : Nat → PV) (ss : Nat → Store) (chg : Nat → Bool)

def cFr : Nat → Fr
  | 0 => f0
  | i + 1 => if L i then (match ops[i]? with | some o => upd (cFr i) o.dst (vs i) | none => cFr i) else cFr i
def cSt : Nat → Store
  | 0 => s0
  | i + 1 => if L i && chg i then ss (i + 1) else cSt i
end canon

def chgO (pl : FuncId → Bool) (ops : Array Oper) (i : Nat) : Bool := match ops[i]? with | some o => (match effO pl o with | .a | .w => true | _ => false) | none => false

theorem upd_ne {fr : Fr} {d : Option Nat} {v : PV} {t : Nat} (h : d ≠ some t) : upd fr d v t = fr t := by
  cases d with
  | none => rfl
  | some u => simp only [upd]; rw [if_neg]; intro e; exact h (by rw [e])
theorem upd_eq {fr : Fr} {v : PV} {t : Nat} : upd fr (some t) v t = v := by simp [upd]

/-- The facts of a region that passes the check. -/
structure DrawFacts (pl : FuncId → Bool) (ops : Array Oper) (B : List Nat) : Prop where
  edge : ∀ (j : Nat) (oj : Oper), ops[j]? = some oj → ∀ e ∈ oj.after, Region.binds .any e = true → e.on < j
  mask : ∀ (j : Nat) (oj : Oper), ops[j]? = some oj → B.getD j 0 = oj.after.foldl (fun s e => if Region.binds .any e then s ||| 2 ^ e.on ||| B.getD e.on 0 else s) 0
  pair : ∀ (i j : Nat) (oi oj : Oper), ops[i]? = some oi → ops[j]? = some oj → i < j → (B.getD j 0).testBit i = false → apartT ops oi oj = true ∧ effPair (effO pl oi) (effO pl oj) = true

theorem drawFacts {pl : FuncId → Bool} {ops : Array Oper} {B : List Nat} (h : drawOk pl ops B = true) : DrawFacts pl ops B := by
  unfold drawOk at h
  rw [List.all_eq_true] at h
  have at_ : ∀ (j : Nat) (oj : Oper), ops[j]? = some oj → _ := fun j oj hj => by
    have := h j (by simpa using (Array.getElem?_eq_some_iff.1 hj).1)
    rw [hj] at this
    simp only [Bool.and_eq_true] at this
    exact this
  refine ⟨fun j oj hj e he hb => ?_, fun j oj hj => ?_, fun i j oi oj hi hj hlt hB => ?_⟩
  · have := (at_ j oj hj).1
    rw [Array.all_eq_true_iff_forall_mem] at this
    simpa [hb] using this e he
  · simpa using (at_ j oj hj).2.1
  · have := (at_ j oj hj).2.2
    rw [List.all_eq_true] at this
    have := this i (by simpa using hlt)
    rw [hB, hi] at this
    simpa using this

theorem mask_spec (B : List Nat) (l : List Edge) (s0 : Nat) (i : Nat) : (l.foldl (fun s e => if Region.binds .any e then s ||| 2 ^ e.on ||| B.getD e.on 0 else s) s0).testBit i = true →
    s0.testBit i = true ∨ ∃ e ∈ l, Region.binds .any e = true ∧ (e.on = i ∨ (B.getD e.on 0).testBit i = true) := by
  induction l generalizing s0 with
  | nil => intro h; exact .inl h
  | cons e l ih =>
    intro h
    rw [List.foldl_cons] at h
    rcases ih _ h with q | ⟨e', he, q⟩
    · split at q
      · rename_i hb
        simp only [Nat.testBit_or, Bool.or_eq_true, Nat.testBit_two_pow, decide_eq_true_eq] at q
        rcases q with (q | q) | q
        · exact .inl q
        · exact .inr ⟨e, by simp, hb, .inl q⟩
        · exact .inr ⟨e, by simp, hb, .inr q⟩
      · exact .inl q
    · exact .inr ⟨e', by simp [he], q⟩

/-- What has been done is closed: with an operation, all that it waits for. -/
def Closed (ops : Array Oper) (L : Nat → Bool) : Prop := ∀ (j : Nat) (oj : Oper), ops[j]? = some oj → L j = true → ∀ e ∈ oj.after, Region.binds .any e = true → L e.on = true

theorem DrawFacts.before {pl ops B} (h : DrawFacts pl ops B) {L : Nat → Bool} (hL : Closed ops L) : ∀ (j : Nat) (oj : Oper), ops[j]? = some oj → (∀ e ∈ oj.after, Region.binds .any e = true → L e.on = true) → ∀ i, (B.getD j 0).testBit i = true → L i = true := by
  intro j
  induction j using Nat.strongRecOn with
  | _ j ih =>
    intro oj hj hpre i hi
    rw [h.mask j oj hj, ← Array.foldl_toList] at hi
    rcases mask_spec B _ 0 i hi with q | ⟨e, he, hb, q⟩
    · simp at q
    · have he' : e ∈ oj.after := by simpa using he
      have hLe := hpre e he' hb
      rcases q with rfl | q
      · exact hLe
      · have hlt := h.edge j oj hj e he' hb
        have hjs := (Array.getElem?_eq_some_iff.1 hj).1
        have hoe : ops[e.on]? = some (ops[e.on]'(by omega)) := Array.getElem?_eq_getElem (by omega)
        exact ih e.on hlt _ hoe (fun e2 h2 hb2 => hL e.on _ hoe hLe e2 h2 hb2) i q

end Go.Pv
