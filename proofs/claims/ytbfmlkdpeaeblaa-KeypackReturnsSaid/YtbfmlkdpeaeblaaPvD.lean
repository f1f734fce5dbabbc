/-
  The pure machine, part D: what an operation does to plain values.
-/
import Derived.Test.YtbfmlkdpeaeblaaPvC
set_option linter.all false
set_option linter.unusedSimpArgs false
set_option linter.unusedVariables false
namespace Go.Pv

inductive TK where
  | int (k : IntKind) | bool | str | slice (e : TypeId) | strct (fs : List (Nat × TypeId)) | array (n : Nat) (e : TypeId)
  | ptr (e : TypeId) | map (k v : TypeId) | fn | iface | other
structure TI where
  kind : TK
  size : Nat
  zero : List PV

/-- What the machine is told: the program, its types, its variables' values, which functions are met by their plain contract. -/
structure Env where
  P : Program
  T : TypeId → Option TI
  G : Nat → PV
  pl : FuncId → Bool
  eqt : TypeId → Bool

def TI.agg (ti : TI) : Bool := match ti.kind with | .strct _ | .array _ _ => true | _ => false

/-- The greatest length that a slice may grow to. -/
def LIM : Nat := 4294967296

def cellsOf : PV → List PV | .agg cs => cs | p => [p]
def scal : PV → Bool | .agg _ | .tup _ | .bad => false | _ => true
def isAgg : PV → Bool | .agg _ => true | _ => false
def tokRo : PV → PV | .sl k es (.own _) => .sl k es .ro | p => p
/-- May it lie in shared memory (and so: has it no references)? -/
def cellOk : PV → Bool
  | .int _ _ | .bool _ | .str _ | .sl _ _ .ro | .sl _ _ .full | .nilp | .nilmap | .nilfn | .nilif | .fn _ [] => true
  | _ => false
def share (cs : List PV) : Option (List PV) := if (cs.map tokRo).all cellOk then some (cs.map tokRo) else none
/-- A value without references to the store. -/
def strip1 : PV → Option PV
  | .agg cs => (share cs).map .agg
  | .rptr cs => some (.rptr cs)
  | p => if cellOk (tokRo p) then some (tokRo p) else none
def strips : List PV → Option (List PV)
  | [] => some []
  | p :: ps => match strip1 p, strips ps with | some q, some qs => some (q :: qs) | _, _ => none

def ofConst : Value → PV
  | .bool b => .bool b
  | .int k n => .int k n
  | .string s => .str s.data.toList
  | .slice none 0 0 => .sl 0 [] .full
  | .pointer none => .nilp
  | .map none => .nilmap
  | .nilFunc => .nilfn
  | .nilIface => .nilif
  | _ => .bad
def evalO (E : Env) (fr : Fr) : Operand → PV
  | .tmp t => fr t
  | .const v => ofConst v
  | .global g => E.G g
  | .func f => .fn f []
/-- Likewise, where the type is known: of a nil slice it tells the elements' size. -/
def evalT (E : Env) (t : TypeId) (fr : Fr) : Operand → PV
  | .const (.slice none 0 0) => match E.T t with
    | some ⟨.slice e, _, _⟩ => (match E.T e with | some te => .sl te.size [] .full | none => .sl 0 [] .full)
    | _ => .sl 0 [] .full
  | x => evalO E fr x

def idxN : PV → Option Nat | .int _ n => if 0 ≤ n then some n.toNat else none | _ => none

def intF (op : BinOp) (k : IntKind) (a b : Int) : Option PV :=
  match op with
  | .add => some (.int k (k.wrap (a + b)))
  | .sub => some (.int k (k.wrap (a - b)))
  | .mul => some (.int k (k.wrap (a * b)))
  | .quo => if b = 0 then none else some (.int k (k.wrap (a.tdiv b)))
  | .rem => if b = 0 then none else some (.int k (a.tmod b))
  | .and => some (.int k (k.wrap (BitVec.ofInt k.bits a &&& BitVec.ofInt k.bits b).toNat))
  | .or => some (.int k (k.wrap (BitVec.ofInt k.bits a ||| BitVec.ofInt k.bits b).toNat))
  | .xor => some (.int k (k.wrap (BitVec.ofInt k.bits a ^^^ BitVec.ofInt k.bits b).toNat))
  | .eql => some (.bool (a == b))
  | .neq => some (.bool (a != b))
  | .lss => some (.bool (decide (a < b)))
  | .leq => some (.bool (decide (a ≤ b)))
  | .gtr => some (.bool (decide (a > b)))
  | .geq => some (.bool (decide (a ≥ b)))
  | _ => none
def shiftF (op : BinOp) (k : IntKind) (a b : Int) : Option PV :=
  if b < 0 then none else
  match op with
  | .shl => some (.int k (k.wrap (a * 2 ^ (min b.toNat k.bits))))
  | .shr => some (.int k (a.fdiv (2 ^ (min b.toNat k.bits))))
  | _ => none
def strF (op : BinOp) (a b : List UInt8) : Option PV :=
  match op with
  | .add => if a.length + b.length ≤ LIM then some (.str (a ++ b)) else none
  | .eql => some (.bool (a == b))
  | .neq => some (.bool (!(a == b)))
  | .lss => some (.bool (Op.bytesLess a b))
  | .leq => some (.bool (Op.bytesLess a b || a == b))
  | .gtr => some (.bool (!(Op.bytesLess a b || a == b)))
  | .geq => some (.bool (!Op.bytesLess a b))
  | _ => none
/-- Cells, compared. -/
def cellEq : PV → PV → Option Bool
  | .int k a, .int k' b => if k = k' then some (a == b) else none
  | .bool a, .bool b => some (a == b)
  | .str a, .str b => some (a == b)
  | _, _ => none
def cellsEq : List PV → List PV → Option Bool
  | [], [] => some true
  | p :: ps, q :: qs => match cellEq p q, cellsEq ps qs with | some a, some b => some (a && b) | _, _ => none
  | _, _ => none
def eqF (E : Env) (t : TypeId) (x y : PV) : Option Bool :=
  match x, y with
  | .bool a, .bool b => (match E.T t with | some ⟨.bool, _, _⟩ => some (a == b) | _ => none)
  | .agg a, .agg b => if E.eqt t then cellsEq a b else none
  | .nilp, .nilp => (match E.T t with | some ⟨.ptr _, _, _⟩ => some true | _ => none)
  | .optr _ _ _, .nilp | .nilp, .optr _ _ _ => (match E.T t with | some ⟨.ptr _, _, _⟩ => some false | _ => none)
  | _, _ => none
def binF (E : Env) (op : BinOp) (t : TypeId) (x y : PV) : Option PV :=
  match x, y with
  | .int k a, .int k' b =>
    (match op with
    | .shl | .shr => shiftF op k a b
    | _ => if k = k' then intF op k a b else none)
  | .str a, .str b => strF op a b
  | x, y =>
    (match op with
    | .eql => (eqF E t x y).map fun b => .bool b
    | .neq => (eqF E t x y).map fun b => .bool (!b)
    | _ => none)
def unF (op : UnOp) (x : PV) : Option PV :=
  match op, x with
  | .not, .bool b => some (.bool !b)
  | .neg, .int k n => some (.int k (k.wrap (0 - n)))
  | _, _ => none
/-- The bytes of a shared slice of bytes. -/
def byteEs : List (List PV) → Option (List UInt8)
  | [] => some []
  | [.int .u8 n] :: es => (byteEs es).map fun r => UInt8.ofNat n.toNat :: r
  | _ => none
def convF (E : Env) (src dst : TypeId) (x : PV) : Option PV :=
  match E.T src, E.T dst, x with
  | some _, some ⟨.int k, _, _⟩, .int _ n => some (.int k (k.wrap n))
  | some ⟨.str, _, _⟩, some ⟨.str, _, _⟩, .str s => some (.str s)
  | some ⟨.slice e, _, _⟩, some ⟨.str, _, _⟩, .sl _ es _ =>
    (match E.T e with
    | some ⟨.int .u8, _, _⟩ => (byteEs es).map .str
    | _ => none)
  | _, _, _ => none

/-- A part of a list of cells as a value. -/
def partF (te : TI) (cs : List PV) (off : Nat) : Option PV :=
  if te.agg then (if off + te.size ≤ cs.length then some (.agg ((cs.drop off).take te.size)) else none) else cs[off]?
def fillF (place : Nat → Option (Nat × Nat)) : List (Nat × PV) → List PV → Option (List PV)
  | [], cs => some cs
  | (i, p) :: rest, cs => match place i with
    | none => none
    | some (off, size) => if scal p || isAgg p then
        (if (cellsOf p).length = size ∧ off + size ≤ cs.length then fillF place rest (splice cs off (cellsOf p)) else none)
      else none

def sliceF (len : Nat) (lo hi mx : Option PV) : Option (Nat × Nat × Bool) :=
  match (match hi with | none => some len | some p => idxN p), (match lo with | none => some 0 | some p => idxN p) with
  | some h, some l =>
    if l ≤ h ∧ h ≤ len then
      (match mx with
      | none => some (l, h, false)
      | some p => match idxN p with
        | some m => if h ≤ m ∧ m ≤ len ∧ hi.isSome then some (l, h, decide (m = h)) else none
        | none => none)
    else none
  | _, _ => none

def keyEq : PV → PV → Option Bool
  | .int k a, .int k' b => if k = k' then some (a == b) else none
  | .str a, .str b => some (a == b)
  | _, _ => none
def findF (key : PV) : List (PV × PV) → Nat → Option (Option (Nat × PV))
  | [], _ => some none
  | (k, v) :: es, i => match keyEq key k with
    | some true => some (some (i, v))
    | some false => findF key es (i + 1)
    | none => none
def keyK (ti : TI) (p : PV) : Bool := match ti.kind, p with | .int _, .int _ _ => true | .str, .str _ => true | _, _ => false

def mapEs (st : Store) : PV → Option (List (PV × PV))
  | .nilmap => some []
  | .map id => (match st[id]? with | some (.map es) => some es | _ => none)
  | _ => none

/-- append, in shared mode. -/
def appendF (E : Env) (st : Store) (e : TypeId) (s : PV) (es2 : List (List PV)) (k2 : Nat) : Option (PV × Store) :=
  match E.T e with
  | none => none
  | some te =>
    match s with
    | .sl k es tok =>
      if es.length + es2.length ≤ LIM ∧ 0 < te.size ∧ (k = te.size ∨ es = []) ∧ (k2 = te.size ∨ es2 = []) then
        (if es2 = [] then some (.sl k es tok, st) else
         match tok with
         | .ro => none
         | .full => some (.sl te.size (es ++ es2) (.own st.length), st ++ [.tok (es.length + es2.length) e te.size])
         | .own i => match st[i]? with
           | some (.tok n e' k') => if n = es.length ∧ e' = e ∧ k' = te.size ∧ k = te.size then some (.sl te.size (es ++ es2) (.own i), st.set i (.tok (es.length + es2.length) e te.size)) else none
           | _ => none)
      else none
    | _ => none

def valOf (ti : TI) (cs : List PV) : PV := if ti.agg then .agg cs else cs.headD .bad

def callB (E : Env) (st : Store) (b : Builtin) (ts : List TypeId) (xs : List PV) : Option (PV × Store) :=
  match b, ts, xs with
  | .len, [t], [x] =>
    (match E.T t with
    | none => none
    | some ti =>
    match ti.kind, x with
    | .slice _, .sl _ es _ => some (.int .i64 es.length, st)
    | .slice _, .osl _ _ _ n _ => some (.int .i64 n, st)
    | .str, .str s => some (.int .i64 s.length, st)
    | .map _ _, .nilmap => some (.int .i64 0, st)
    | .map _ _, .map id => (match st[id]? with | some (.map es) => some (.int .i64 es.length, st) | _ => none)
    | _, _ => none)
  | .max, _, [.int k x, .int k' y] => if k = k' then some (.int k (if y > x then y else x), st) else none
  | .min, _, [.int k x, .int k' y] => if k = k' then some (.int k (if y < x then y else x), st) else none
  | .max, _, [.int k x, .int k' y, .int k'' z] => if k = k' ∧ k = k'' then some (.int k (if z > (if y > x then y else x) then z else (if y > x then y else x)), st) else none
  | .min, _, [.int k x, .int k' y, .int k'' z] => if k = k' ∧ k = k'' then some (.int k (if z < (if y < x then y else x) then z else (if y < x then y else x)), st) else none
  | .append, [t, tx], [s, x] =>
    (match E.T t with
    | some ⟨.slice e, _, _⟩ =>
      (match E.T tx, x with
      | some ⟨.slice _, _, _⟩, .sl k2 es2 _ => appendF E st e s es2 k2
      | some ⟨.str, _, _⟩, .str b => appendF E st e s (b.map fun c => [.int .u8 c.toNat]) 1
      | _, _ => none)
    | _ => none)
  | _, _, _ => none

/-- Every operation but calls of functions, ranges over maps and strings. -/
def opF (E : Env) (ty : TypeId) (fr : Fr) (st : Store) : Op → Option (PV × Store)
  | .move x | .assign x => some (evalT E ty fr x, st)
  | .pick c a b =>
    (match evalO E fr c, evalO E fr a, evalO E fr b with
    | .bool t, .bool x, .bool y => some (.bool (if t then x else y), st)
    | .bool t, x, y => some (if t then x else y, st)
    | _, _, _ => none)
  | .alloc e => (match E.T e with | some te => some (.optr st.length te.size 0, st ++ [.cells te.zero]) | none => none)
  | .box e x => (match E.T e with
    | some te => let p := evalT E e fr x
      if (scal p || isAgg p) = true ∧ (cellsOf p).length = te.size then some (.optr st.length te.size 0, st ++ [.cells (cellsOf p)]) else none
    | none => none)
  | .build t parts => (match E.T t with
    | some ⟨.strct fs, _, z⟩ => if !(fs.all fun f => (E.T f.2).isSome) then none else (fillF (fun i => (fs[i]?).bind fun f => (E.T f.2).map fun tf => (f.1, tf.size)) (parts.toList.map fun q => (q.1, evalO E fr q.2)) z).map fun cs => (.agg cs, st)
    | some ⟨.array _ e, _, z⟩ => (match E.T e with
      | some te => (fillF (fun i => some (i * te.size, te.size)) (parts.toList.map fun q => (q.1, evalO E fr q.2)) z).map fun cs => (.agg cs, st)
      | none => none)
    | _ => none)
  | .buildSlice t len parts => (match E.T t with
    | some ⟨.slice e, _, _⟩ => (match E.T e with
      | some te =>
        if parts.toList.map (·.1) = List.range len ∧ len ≤ 4096 ∧ te.size ≤ 256 ∧ 0 < te.size ∧ (parts.toList.all fun q => (scal (evalT E e fr q.2) || isAgg (evalT E e fr q.2)) && (cellsOf (evalT E e fr q.2)).length == te.size) then
          (let rows := parts.toList.map fun q => (cellsOf (evalT E e fr q.2)).map tokRo
           if rows.all (·.all cellOk) then some (.sl te.size rows .full, st) else none)
        else none
      | none => none)
    | _ => none)
  | .load t a => (match E.T t, evalO E fr a with
    | some te, .rptr cs => (partF te cs 0).map fun v => (v, st)
    | some te, .optr id tot off => (match st[id]? with
      | some (.cells cs) => if tot = cs.length then (partF te cs off).map fun v => (v, st) else none
      | _ => none)
    | _, _ => none)
  | .store t a x => (match E.T t, evalO E fr a with
    | some te, .optr id tot off => (match st[id]? with
      | some (.cells cs) => let p := evalT E t fr x
        if tot = cs.length ∧ off + te.size ≤ tot ∧ (cellsOf p).length = te.size ∧ (scal p || isAgg p) = true then some (.tup [], st.set id (.cells (splice cs off (cellsOf p)))) else none
      | _ => none)
    | _, _ => none)
  | .nilCheck x => (match evalO E fr x with
    | .optr id tot off => some (.optr id tot off, st)
    | .rptr cs => some (.rptr cs, st)
    | .fn f caps => some (.fn f caps, st)
    | .yld l => some (.yld l, st)
    | _ => none)
  | .binOp op t x y _ => (binF E op t (evalO E fr x) (evalO E fr y)).map fun v => (v, st)
  | .unOp op _ x => (unF op (evalO E fr x)).map fun v => (v, st)
  | .convert src dst x => (convF E src dst (evalO E fr x)).map fun v => (v, st)
  | .makeFunc (.func f) first caps => if first.isEmpty then some (.fn f (caps.toList.map (evalO E fr)), st) else none
  | .makeMap _ none => some (.map st.length, st ++ [.map []])
  | .makeSlice t l c => (match E.T t, evalO E fr l, evalO E fr c with
    | some ⟨.slice e, _, _⟩, .int .i64 n, .int .i64 m => (match E.T e with
      | some te => if 0 ≤ n ∧ n ≤ LIM ∧ m = n ∧ 0 < te.size then some (.osl st.length (n.toNat * te.size) 0 n.toNat te.size, st ++ [.cells ((List.replicate n.toNat te.zero).flatten)]) else none
      | none => none)
    | _, _, _ => none)
  | .slice t x lo hi mx => (match E.T t, evalO E fr x with
    | some ti, p => (match ti.kind, p with
      | .str, .str s => (match sliceF s.length (lo.map (evalO E fr)) (hi.map (evalO E fr)) none with
        | some (l, h, _) => if mx.isNone then some (.str ((s.take h).drop l), st) else none
        | none => none)
      | .slice e, .sl k es tok => (match E.T e, sliceF es.length (lo.map (evalO E fr)) (hi.map (evalO E fr)) (mx.map (evalO E fr)) with
        | some te, some (l, h, f) => if te.size ≠ k then none else some (.sl k ((es.take h).drop l) (if f then .full else match tok with | .full => if h = es.length ∧ mx.isNone then .full else .ro | _ => .ro), st)
        | _, _ => none)
      | .slice e, .osl id tot off len k => (match E.T e, sliceF len (lo.map (evalO E fr)) (hi.map (evalO E fr)) (mx.map (evalO E fr)) with
        | some te, some (l, h, _) => if te.size = k then some (.osl id tot (off + l * k) (h - l) k, st) else none
        | _, _ => none)
      | .array n e, .optr id tot off => (match E.T e, st[id]?, sliceF n (lo.map (evalO E fr)) (hi.map (evalO E fr)) (mx.map (evalO E fr)) with
        | some te, some (.cells cs), some (l, h, _) => if tot = cs.length ∧ off + n * te.size ≤ tot then some (.osl id tot (off + l * te.size) (h - l) te.size, st) else none
        | _, _, _ => none)
      | _, _ => none)
    | _, _ => none)
  | .fieldAddr s x f => (match E.T s with
    | some ⟨.strct fs, _, _⟩ => (match fs[f]? with
      | some (foff, ft) => (match E.T ft with
        | some tf => if tf.size = 0 then none else
          (match evalO E fr x with
          | .rptr cs => some (.rptr (cs.drop foff), st)
          | .optr id tot off => some (.optr id tot (off + foff), st)
          | _ => none)
        | none => none)
      | none => none)
    | _ => none)
  | .field t x f => (match E.T t with
    | some ⟨.strct fs, _, _⟩ => (match fs[f]?, evalO E fr x with
      | some (foff, ft), .agg cs => (match E.T ft with | some tf => (partF tf cs foff).map fun v => (v, st) | none => none)
      | _, _ => none)
    | _ => none)
  | .indexAddr t x i => (match E.T t, idxN (evalO E fr i) with
    | some ti, some j => (match ti.kind, evalO E fr x with
      | .slice e, .sl k es _ => (match E.T e, es[j]? with | some te, some c => if te.size = k then some (.rptr c, st) else none | _, _ => none)
      | .slice e, .osl id tot off len k => (match E.T e with | some te => if j < len ∧ te.size = k then some (.optr id tot (off + j * k), st) else none | none => none)
      | .array n e, .rptr cs => (match E.T e with | some te => if j < n then some (.rptr (cs.drop (j * te.size)), st) else none | none => none)
      | .array n e, .optr id tot off => (match E.T e with | some te => if j < n then some (.optr id tot (off + j * te.size), st) else none | none => none)
      | _, _ => none)
    | _, _ => none)
  | .index t x i => (match E.T t, idxN (evalO E fr i) with
    | some ti, some j => (match ti.kind, evalO E fr x with
      | .str, .str s => (match s[j]? with | some b => some (.int .u8 b.toNat, st) | none => none)
      | .array n e, .agg cs => (match E.T e with | some te => if j < n then (partF te cs (j * te.size)).map fun v => (v, st) else none | none => none)
      | _, _ => none)
    | _, _ => none)
  | .lookup t m k ok => (match E.T t with
    | some ⟨.map tk tv, _, _⟩ => (match E.T tk, E.T tv with
      | some ik, some iv =>
        if keyK ik (evalO E fr k) then
          (match mapEs st (evalO E fr m) with
          | some es => (match findF (evalO E fr k) es 0 with
            | some (some (_, v)) => some (if ok then .tup [v, .bool true] else v, st)
            | some none => some (if ok then .tup [valOf iv iv.zero, .bool false] else valOf iv iv.zero, st)
            | none => none)
          | none => none)
        else none
      | _, _ => none)
    | _ => none)
  | .mapUpdate t m k x => (match E.T t with
    | some ⟨.map tk tv, _, _⟩ => (match E.T tk with
      | some ik =>
        if keyK ik (evalO E fr k) then
          (match evalO E fr m with
          | .map id => (match st[id]? with
            | some (.map es) => (match findF (evalO E fr k) es 0 with
              | some (some (i, _)) => some (.tup [], st.set id (.map (es.set i (evalO E fr k, evalT E tv fr x))))
              | some none => some (.tup [], st.set id (.map (es ++ [(evalO E fr k, evalT E tv fr x)])))
              | none => none)
            | _ => none)
          | _ => none)
        else none
      | none => none)
    | _ => none)
  | .extract t i => (match evalO E fr t with | .tup vs => (vs[i]?).map fun v => (v, st) | _ => none)
  | .call { callee := .builtin b, args, argTypes } => if args.size = argTypes.size then callB E st b argTypes.toList ((args.toList.zip argTypes.toList).map fun q => evalT E q.2 fr q.1) else none
  | _ => none

end Go.Pv
