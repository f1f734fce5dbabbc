/-
  The pure machine, part W: words for reckoning code on plain values.
-/
import Derived.Test.YtbfmlkdpeaeblaaPvZa
set_option linter.all false
set_option linter.unusedSimpArgs false
set_option linter.unusedVariables false
namespace Go.Pv

@[congr] theorem W_congr {E : Env} {N : Nat} {c : Code} {fr fr' : Fr} {st st' : Store} {Q : Exit → Fr → Store → Prop} (h : fr = fr') (h' : st = st') : W E N c fr st Q = W E N c fr' st' Q := by rw [h, h']
@[congr] theorem OpsW_congr {E : Env} {ops : Array Oper} {l : List Oper} {fr fr' : Fr} {st st' : Store} {K : Fr → Store → Prop} (h : fr = fr') (h' : st = st') : OpsW E ops l fr st K = OpsW E ops l fr' st' K := by rw [h, h']
@[congr] theorem StepR_congr {E : Env} {fr fr' : Fr} {st st' : Store} {o : Oper} {v v1 : PV} {s s1 : Store} (h : fr = fr') (h' : st = st') : StepR E fr st o v s = StepR E fr' st' o v s := by rw [h, h']
@[congr] theorem opF_congr' {E : Env} {ty : TypeId} {fr fr' : Fr} {st st' : Store} {op : Op} (h : fr = fr') (h' : st = st') : opF E ty fr st op = opF E ty fr' st' op := by rw [h, h']

/-- Code behind a test that is not decided yet. -/
def Wz (E : Env) (N : Nat) (c : Code) (fr : Fr) (st : Store) (Q : Exit → Fr → Store → Prop) : Prop := W E N c fr st Q
def OpsWz (E : Env) (ops : Array Oper) (l : List Oper) (fr : Fr) (st : Store) (K : Fr → Store → Prop) : Prop := OpsW E ops l fr st K
theorem Br_W1 {E N x fr st Q B} : Br true (Wz E N x fr st Q) B = W E N x fr st Q := by simp [Wz]
theorem Br_W2 {E N x fr st Q A} : Br false A (Wz E N x fr st Q) = W E N x fr st Q := by simp [Wz]
theorem Br_O1 {E ops l fr st K B} : Br true (OpsWz E ops l fr st K) B = OpsW E ops l fr st K := by simp [OpsWz]
theorem Br_O2 {E ops l fr st K A} : Br false A (OpsWz E ops l fr st K) = OpsW E ops l fr st K := by simp [OpsWz]
theorem Br_W {b E N x y fr st Q} (h : b = true → W E N x fr st Q) (h' : b = false → W E N y fr st Q) : Br b (Wz E N x fr st Q) (Wz E N y fr st Q) := Br.mk h h'
theorem Br_O {b E ops l fr st K l' fr' st' K'} (h : b = true → OpsW E ops l fr st K) (h' : b = false → OpsW E ops l' fr' st' K') : Br b (OpsWz E ops l fr st K) (OpsWz E ops l' fr' st' K') := Br.mk h h'

section
variable {E : Env} {N : Nat} {fr : Fr} {st : Store} {Q : Exit → Fr → Store → Prop}
theorem W_skip : W E N .skip fr st Q = Q .normal fr st := rfl
theorem W_region {id : Nat} {l : List Oper} {d : Bool} : W E N (.region id l.toArray d) fr st Q = OpsW E l.toArray l fr st (Q .normal) := rfl
theorem W_seq {a b : Code} : W E N (.seq a b) fr st Q = W E N a fr st fun e fr' st' => match e with | .normal => W E N b fr' st' Q | e => Q e fr' st' := rfl
theorem W_cond {c : Operand} {x y : Code} : W E N (.cond c x y) fr st Q = match evalO E fr c with | .bool b => Br b (Wz E N x fr st Q) (Wz E N y fr st Q) | _ => False := rfl
theorem W_block {id : Nat} {b : Code} : W E N (.block id b) fr st Q = W E N b fr st fun e fr' st' => match e with | .exit i => if i = id then Q .normal fr' st' else Q (.exit i) fr' st' | e => Q e fr' st' := rfl
theorem W_exit {i : Nat} : W E N (.exit i) fr st Q = Q (.exit i) fr st := rfl
theorem W_label {i : Nat} : W E N (.label i) fr st Q = Q .normal fr st := rfl
theorem W_ret : W E N .ret fr st Q = Q .ret fr st := rfl
theorem W_range {g : Operand} {ps : Array Tmp} {asg body : Code} : W E N (.rangeFunc g ps asg body) fr st Q = RangeW E N g ps.toList asg body fr st Q := rfl

theorem OpsW_nil {ops : Array Oper} {K : Fr → Store → Prop} : OpsW E ops [] fr st K = K fr st := rfl
theorem OpsW_app {ops : Array Oper} {K : Fr → Store → Prop} (l1 l2 : List Oper) : ∀ fr st, OpsW E ops (l1 ++ l2) fr st K = OpsW E ops l1 fr st fun fr st => OpsW E ops l2 fr st K := by
  induction l1 with
  | nil => intro fr st; rfl
  | cons o l ih => intro fr st; simp only [List.cons_append, OpsW, ih]
theorem OpsW_app' {ops : Array Oper} {K : Fr → Store → Prop} (l1 l2 : List Oper) : OpsW E ops (l1.append l2) fr st K = OpsW E ops l1 fr st fun fr st => OpsW E ops l2 fr st K := OpsW_app l1 l2 fr st

theorem StepR_opF {d : Option Tmp} {op : Op} {ty : TypeId} {pos : String} {af : Array Edge} {g : Option (Nat × Bool)} {v : PV} {st' : Store} (h : (match op with | .call _ => false | _ => true) = true) :
    StepR E fr st ⟨d, op, ty, pos, af, g⟩ v st' = (opF E ty fr st op = some (v, st')) := by
  cases op <;> first | rfl | cases h
theorem StepR_builtin {d : Option Tmp} {b : Builtin} {args ts} {ty : TypeId} {pos : String} {af : Array Edge} {g : Option (Nat × Bool)} {v : PV} {st' : Store} :
    StepR E fr st ⟨d, .call ⟨.builtin b, args, ts⟩, ty, pos, af, g⟩ v st' = (opF E ty fr st (.call ⟨.builtin b, args, ts⟩) = some (v, st')) := rfl
theorem StepR_value {d : Option Tmp} {x : Operand} {args ts} {ty : TypeId} {pos : String} {af : Array Edge} {g : Option (Nat × Bool)} {v : PV} {st' : Store} :
    StepR E fr st ⟨d, .call ⟨.value x, args, ts⟩, ty, pos, af, g⟩ v st' = CallR E fr st x ⟨.value x, args, ts⟩ v st' := rfl

/-- An operation without a guard, whose outcome is known. -/
theorem OpsW_op {ops : Array Oper} {K : Fr → Store → Prop} {d : Option Tmp} {op : Op} {ty : TypeId} {pos : String} {af : Array Edge} {rest : List Oper} (h : (match op with | .call c => (match c.callee with | .value _ => false | _ => true) | _ => true) = true) :
    OpsW E ops (⟨d, op, ty, pos, af, none⟩ :: rest) fr st K = match opF E ty fr st op with | some (v, st') => OpsW E ops rest (upd fr d v) st' K | none => False := by
  have e : ∀ v st', StepR E fr st ⟨d, op, ty, pos, af, none⟩ v st' = (opF E ty fr st op = some (v, st')) := by
    intro v st'
    refine stepR_op (o := ⟨d, op, ty, pos, af, none⟩) (fun c g e1 e2 => ?_)
    simp only at e1
    rw [e1] at h
    simp only at h
    rw [e2] at h
    cases h
  simp only [OpsW, guardF, e, Br_true]
  cases opF E ty fr st op with
  | none => simp
  | some q =>
    obtain ⟨v, st'⟩ := q
    simp only [Option.some.injEq, Prod.mk.injEq]
    exact propext ⟨fun ⟨_, _, ⟨h1, h2⟩, h⟩ => by subst h1 h2; exact h, fun h => ⟨_, _, ⟨rfl, rfl⟩, h⟩⟩
theorem OpsW_call {ops : Array Oper} {K : Fr → Store → Prop} {d : Option Tmp} {x : Operand} {args ts} {ty : TypeId} {pos : String} {af : Array Edge} {rest : List Oper} :
    OpsW E ops (⟨d, .call ⟨.value x, args, ts⟩, ty, pos, af, none⟩ :: rest) fr st K = ∃ v st', CallR E fr st x ⟨.value x, args, ts⟩ v st' ∧ OpsW E ops rest (upd fr d v) st' K := by
  simp only [OpsW, guardF, Br_true]
  rfl
/-- With a guard: by what the guard's temporary holds. -/
theorem OpsW_guard {ops : Array Oper} {K : Fr → Store → Prop} {d : Option Tmp} {op : Op} {ty : TypeId} {pos : String} {af : Array Edge} {j : Nat} {b : Bool} {rest : List Oper} :
    OpsW E ops (⟨d, op, ty, pos, af, some (j, b)⟩ :: rest) fr st K =
      match (ops[j]?).bind (·.dst) with
      | none => OpsW E ops rest (upd fr d (.tup [])) st K
      | some t => match fr t with
        | .bool c => Br (c == b) (OpsWz E ops (⟨d, op, ty, pos, af, none⟩ :: rest) fr st K) (OpsWz E ops rest (upd fr d (.tup [])) st K)
        | .tup [] => OpsW E ops rest (upd fr d (.tup [])) st K
        | _ => False := by
  simp only [OpsWz, OpsW, guardF, Br_true]
  cases (ops[j]?).bind (·.dst) with
  | none => simp
  | some t =>
    simp only
    cases fr t with
    | bool c => rfl
    | tup vs => cases vs <;> simp
    | _ => rfl

theorem upd_some (fr : Fr) (d : Nat) (v : PV) (t : Nat) : upd fr (some d) v t = if t = d then v else fr t := rfl
theorem upd_none (fr : Fr) (v : PV) : upd fr none v = fr := rfl
end


/-- A call of a function with a plain contract. -/
theorem OpsW_pl {E : Env} {ops : Array Oper} {K : Fr → Store → Prop} {fr : Fr} {st : Store} {d : Option Tmp} {f : FuncId} {args ts} {ty : TypeId} {pos : String} {af : Array Edge} {rest : List Oper} {xs : List PV} {r : PV} (h : Plain E f xs r) (hp : E.pl f = true) (hsz : args.size = ts.size)
    (hx : strips (callArgs E fr ⟨.value (.func f), args, ts⟩) = some xs) (k : OpsW E ops rest (upd fr d r) st K) : OpsW E ops (⟨d, .call ⟨.value (.func f), args, ts⟩, ty, pos, af, none⟩ :: rest) fr st K := by
  rw [OpsW_call]
  refine ⟨r, st, ⟨hsz, ?_⟩, k⟩
  simp only [evalO, if_pos hp]
  exact ⟨trivial, trivial, xs, hx, h⟩
/-- A call of a function with a contract. -/
theorem OpsW_sp {E : Env} {ops : Array Oper} {K : Fr → Store → Prop} {fr : Fr} {st : Store} {d : Option Tmp} {g : Operand} {f : FuncId} {caps : List PV} {args ts} {ty : TypeId} {pos : String} {af : Array Edge} {rest : List Oper} {xs : List PV} {r : PV} {st' : Store} (h : Spec E f xs st r st') (hg : evalO E fr g = .fn f caps) (hp : E.pl f = false)
    (hsz : args.size = ts.size) (hx : callArgs E fr ⟨.value g, args, ts⟩ ++ caps = xs) (k : OpsW E ops rest (upd fr d r) st' K) : OpsW E ops (⟨d, .call ⟨.value g, args, ts⟩, ty, pos, af, none⟩ :: rest) fr st K := by
  rw [OpsW_call]
  refine ⟨r, st', ⟨hsz, ?_⟩, k⟩
  simp only [hg, hp]
  subst hx
  exact h
/-- A call of a loop's yield. -/
theorem OpsW_yield {E : Env} {ops : Array Oper} {K : Fr → Store → Prop} {fr : Fr} {st : Store} {d : Option Tmp} {g : Operand} {l : Nat} {args ts} {ty : TypeId} {pos : String} {af : Array Edge} {rest : List Oper} {xs : List PV} {r : PV} {st' : Store} (h : YSpec E l xs st r st') (hg : evalO E fr g = .yld l)
    (hsz : args.size = ts.size) (hx : callArgs E fr ⟨.value g, args, ts⟩ = xs) (k : OpsW E ops rest (upd fr d r) st' K) : OpsW E ops (⟨d, .call ⟨.value g, args, ts⟩, ty, pos, af, none⟩ :: rest) fr st K := by
  rw [OpsW_call]
  refine ⟨r, st', ⟨hsz, ?_⟩, k⟩
  simp only [hg]
  subst hx
  exact h

theorem range1 : List.range 1 = [0] := rfl
theorem range2 : List.range 2 = [0, 1] := rfl
theorem range3 : List.range 3 = [0, 1, 2] := rfl
theorem range4 : List.range 4 = [0, 1, 2, 3] := rfl

def stripT : Tok → Tok | .own _ => .ro | t => t
theorem strip_sl (k : Nat) (es : List (List PV)) (t : Tok) : strip1 (.sl k es t) = some (.sl k es (stripT t)) := by
  cases t <;> simp [strip1, tokRo, cellOk, stripT]
theorem strip_int (k : IntKind) (n : Int) : strip1 (.int k n) = some (.int k n) := by simp [strip1, tokRo, cellOk]
theorem strip_bool (b : Bool) : strip1 (.bool b) = some (.bool b) := by simp [strip1, tokRo, cellOk]
theorem strip_str (s : List UInt8) : strip1 (.str s) = some (.str s) := by simp [strip1, tokRo, cellOk]
theorem pub_int (st : Store) (n : Nat) (k : IntKind) (x : Int) : pub st (n + 1) (.int k x) = some (.int k x) := by simp [pub, cellOk, tokRo]
theorem pub_bool (st : Store) (n : Nat) (b : Bool) : pub st (n + 1) (.bool b) = some (.bool b) := by simp [pub, cellOk, tokRo]
theorem pub_str (st : Store) (n : Nat) (s : List UInt8) : pub st (n + 1) (.str s) = some (.str s) := by simp [pub, cellOk, tokRo]
theorem pub_sl (st : Store) (n : Nat) (k : Nat) (es : List (List PV)) (t : Tok) : pub st (n + 1) (.sl k es t) = some (.sl k es (stripT t)) := by cases t <;> simp [pub, cellOk, tokRo, stripT]

theorem idxN_nat {k : IntKind} (i : Nat) : idxN (.int k (i : Int)) = some i := by simp [idxN]
theorem idxN_lit {k : IntKind} (n : Nat) : idxN (.int k (OfNat.ofNat n)) = some n := idxN_nat n

/-- A loop: a relation that each round keeps, a number that each round lessens. -/
theorem W_loop {E : Env} {N : Nat} {b : Code} {Q : Exit → Fr → Store → Prop} (I : Nat → Fr → Store → Prop) (hs : ∀ n fr st, I n fr st → W E N b fr st fun e fr' st' => match e with | .normal => ∃ m, m < n ∧ I m fr' st' | e => Q e fr' st') :
    ∀ n fr st, I n fr st → W E N (.loop b) fr st Q := by
  have key : ∀ k n fr st, n ≤ k → I n fr st → LoopW (fun fr st Q => W E N b fr st Q) Q (k + 1) fr st := by
    intro k
    induction k with
    | zero =>
      intro n fr st hn hI
      refine W.mono b _ _ (fun e fr' st' q => ?_) fr st (hs n fr st hI)
      cases e <;> first | exact q | skip
      obtain ⟨m, hm, _⟩ := q
      omega
    | succ k ih =>
      intro n fr st hn hI
      refine W.mono b _ _ (fun e fr' st' q => ?_) fr st (hs n fr st hI)
      cases e <;> first | exact q | skip
      obtain ⟨m, hm, hm'⟩ := q
      exact ih m fr' st' (by omega) hm'
  intro n fr st hI
  exact ⟨n + 1, key n n fr st (Nat.le_refl _) hI⟩
end Go.Pv
