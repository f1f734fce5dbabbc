/-
  The pure machine, part A: plain values, the store, and how they stand to the model's values and memory.
-/
import Derived.OrdersIn
import Derived.RangeFuncLeaves
import Derived.RangeFuncCalls
import Derived.Deep.AppendSrc
import Derived.Maps.AppendAt
import Derived.Deep.MidRow
import Derived.KernelRfl
import Derived.OneCell
import Derived.ChangeKeysEq
import Derived.IntWalk
set_option linter.all false
set_option linter.unusedSimpArgs false
set_option linter.unusedVariables false
section
namespace Go.Pv

/-- What is known of a shared slice's capacity: nothing; that it is the length; that the row is the call's own and may grow in place. -/
inductive Tok where
  | ro | full | own (i : Nat)

/-- A plain value. -/
inductive PV where
  | int (k : IntKind) (n : Int)
  | bool (b : Bool)
  | str (s : List UInt8)
  | sl (k : Nat) (es : List (List PV)) (t : Tok)
  | agg (cs : List PV)
  | tup (vs : List PV)
  | rptr (cs : List PV)
  | optr (id tot off : Nat)
  | osl (id tot off len k : Nat)
  | nilp
  | map (id : Nat)
  | nilmap
  | fn (f : FuncId) (caps : List PV)
  | yld (l : Nat)
  | it (id : Nat)
  | nilfn
  | iface (t : TypeId) (v : PV)
  | nilif
  | bad

abbrev Fr := Nat → PV
def upd (fr : Fr) (d : Option Nat) (v : PV) : Fr := match d with | some t => fun u => if u = t then v else fr u | none => fr

/-- What may lie in the store. -/
inductive Ob where
  | cells (cs : List PV)
  | tok (n : Nat) (e : TypeId) (k : Nat)
  | map (es : List (PV × PV))
  | iter (m : Option Nat) (n : Nat) (seen : List Nat)
  | loop (fr : Fr) (ps : List Nat) (asg body : Code) (nt : Nat) (s : Nat) (pend : Option Code)

abbrev Store := List Ob

/-- What is known of memory that never changes any more. -/
abbrev Know := Addr → Option Value

def bytesV (s : List UInt8) : ByteArray := ⟨s.toArray⟩

/-- A plain value without references to the store, over known memory. -/
inductive TRel (K : Know) : PV → Value → Prop
  | int (k n) : TRel K (.int k n) (.int k n)
  | bool (b) : TRel K (.bool b) (.bool b)
  | str (s) : TRel K (.str s) (.string (bytesV s))
  | sl (k : Nat) (es : List (List PV)) (t : Tok) (A : Option Addr) (c b off : Nat) (f : Nat → Nat → Value)
      (hk : ∀ (j : Nat) (e : List PV), es[j]? = some e → e.length = k)
      (hA : es ≠ [] → A = some ⟨b, off, none⟩)
      (hK : ∀ (j i : Nat), j < es.length → i < k → K ⟨b, off + (j * k + i), none⟩ = some (f j i))
      (hv : ∀ (j i : Nat) (e : List PV) (p : PV), es[j]? = some e → e[i]? = some p → TRel K p (f j i))
      (h1 : ∀ (j i : Nat), (f j i).oneCell' = true)
      (hc : es.length ≤ c) (hm : c ≤ maxLen) (hn : A = none → c = 0)
      (ht : t = .ro ∨ (t = .full ∧ c = es.length)) : TRel K (.sl k es t) (.slice A es.length c)
  | agg (cs : List PV) (vs : Array Value) (hl : cs.length = vs.size)
      (h1 : ∀ (i : Nat) (v : Value), vs[i]? = some v → v.oneCell' = true)
      (h : ∀ (i : Nat) (p : PV) (v : Value), cs[i]? = some p → vs[i]? = some v → TRel K p v) : TRel K (.agg cs) (.agg vs)
  | tup (ps : List PV) (vs : Array Value) (hl : ps.length = vs.size)
      (h : ∀ (i : Nat) (p : PV) (v : Value), ps[i]? = some p → vs[i]? = some v → TRel K p v) : TRel K (.tup ps) (.tuple vs)
  | rptr (cs : List PV) (b off : Nat) (f : Nat → Value)
      (hK : ∀ i : Nat, i < cs.length → K ⟨b, off + i, none⟩ = some (f i)) (h1 : ∀ i : Nat, (f i).oneCell' = true)
      (h : ∀ (i : Nat) (p : PV), cs[i]? = some p → TRel K p (f i)) : TRel K (.rptr cs) (.pointer (some ⟨b, off, none⟩))
  | nilp : TRel K .nilp (.pointer none)
  | nilmap : TRel K .nilmap (.map none)
  | fn (f) : TRel K (.fn f []) (.func (.func f) #[] #[])
  | nilfn : TRel K .nilfn .nilFunc
  | nilif : TRel K .nilif .nilIface
  | iface (t p v) (h : TRel K p v) : TRel K (.iface t p) (.iface t v)
  | bad (v) : TRel K .bad v

theorem TRel.mono {K K' : Know} (hK : ∀ a v, K a = some v → K' a = some v) {p : PV} {v : Value} (h : TRel K p v) : TRel K' p v := by
  induction h with
  | int k n => exact .int k n
  | bool b => exact .bool b
  | str s => exact .str s
  | sl k es t A c b off f hk hA hK' hv h1 hc hm hn ht ih =>
    exact .sl k es t A c b off f hk hA (fun j i hj hi => hK _ _ (hK' j i hj hi)) (fun j i e p he hp => ih j i e p he hp) h1 hc hm hn ht
  | agg cs vs hl h1 _ ih => exact .agg cs vs hl h1 ih
  | tup ps vs hl _ ih => exact .tup ps vs hl ih
  | rptr cs b off f hK' h1 _ ih => exact .rptr cs b off f (fun i hi => hK _ _ (hK' i hi)) h1 ih
  | nilp => exact .nilp
  | nilmap => exact .nilmap
  | fn f => exact .fn f
  | nilfn => exact .nilfn
  | nilif => exact .nilif
  | iface t p v _ ih => exact .iface t p v ih
  | bad v => exact .bad v

/-- The block of a handle. -/
def hblk : Value → Option Nat
  | .pointer (some a) => some a.block
  | .slice (some a) _ _ => some a.block
  | .map (some r) => some r
  | _ => none

/-- A plain value, with references: to the store's objects, whose handles are 'ι'. -/
inductive VRel (K : Know) (ι : Nat → Value) (st : Store) : PV → Value → Prop
  | tree (p v) (h : TRel K p v) : VRel K ι st p v
  | own (k : Nat) (es : List (List PV)) (i : Nat) (A : Option Addr) (c m : Nat) (e : TypeId) (h : TRel K (.sl k es .ro) (.slice A es.length c))
      (hst : st[i]? = some (.tok m e k)) (hle : es.length ≤ m) (heq : es.length = m → ι i = .slice A es.length c) : VRel K ι st (.sl k es (.own i)) (.slice A es.length c)
  | agg (cs : List PV) (vs : Array Value) (hl : cs.length = vs.size)
      (h1 : ∀ (i : Nat) (v : Value), vs[i]? = some v → v.oneCell' = true)
      (h : ∀ (i : Nat) (p : PV) (v : Value), cs[i]? = some p → vs[i]? = some v → VRel K ι st p v) : VRel K ι st (.agg cs) (.agg vs)
  | tup (ps : List PV) (vs : Array Value) (hl : ps.length = vs.size)
      (h : ∀ (i : Nat) (p : PV) (v : Value), ps[i]? = some p → vs[i]? = some v → VRel K ι st p v) : VRel K ι st (.tup ps) (.tuple vs)
  | optr (id tot off : Nat) (a : Addr) (cs : List PV) (hst : st[id]? = some (.cells cs)) (hle : tot ≤ cs.length)
      (heq : tot = cs.length → ∃ b s, ι id = .slice (some ⟨b, 0, none⟩) 0 s ∧ a = ⟨b, off, none⟩) : VRel K ι st (.optr id tot off) (.pointer (some a))
  | osl (id tot off len k : Nat) (A : Option Addr) (c : Nat) (cs : List PV) (hst : st[id]? = some (.cells cs)) (hle : tot ≤ cs.length) (hlc : len ≤ c)
      (hn : (A = none → c = 0) ∧ c ≤ maxLen)
      (heq : tot = cs.length → ∃ b s, ι id = .slice (some ⟨b, 0, none⟩) 0 s ∧ (c ≠ 0 → A = some ⟨b, off, none⟩) ∧ off + len * k ≤ tot ∧ off + c * k ≤ s) :
      VRel K ι st (.osl id tot off len k) (.slice A len c)
  | map (id : Nat) (es : List (PV × PV)) (b : Nat) (hst : st[id]? = some (.map es)) (hb : ι id = .map (some b)) : VRel K ι st (.map id) (.map (some b))
  | fn (f : FuncId) (caps : List PV) (vs : Array Value) (hl : caps.length = vs.size)
      (h : ∀ (i : Nat) (p : PV) (v : Value), caps[i]? = some p → vs[i]? = some v → VRel K ι st p v) : VRel K ι st (.fn f caps) (.func (.func f) #[] vs)
  | yld (l b : Nat) (fr ps asg body nt r pd) (hst : st[l]? = some (.loop fr ps asg body nt r pd)) (hb : ι l = .pointer (some ⟨b, 0, none⟩)) :
      VRel K ι st (.yld l) (.func (.yield b) #[] #[])
  | it (id b : Nat) (m n seen) (hst : st[id]? = some (.iter m n seen)) (hb : ι id = .pointer (some ⟨b, 0, none⟩)) : VRel K ι st (.it id) (.pointer (some ⟨b, 0, none⟩))

/-- How an object may turn. -/
def Ob.le : Ob → Ob → Value → Value → Prop
  | .cells cs, .cells cs', v, v' => cs.length ≤ cs'.length ∧ (cs.length = cs'.length → v = v')
  | .tok n e k, .tok n' e' k', v, v' => e = e' ∧ k = k' ∧ n ≤ n' ∧ (n = n' → v = v')
  | .map _, .map _, v, v' => v = v'
  | .loop .., .loop .., v, v' => v = v'
  | .iter .., .iter .., v, v' => v = v'
  | _, _, _, _ => False

theorem Ob.le_refl (o : Ob) (v : Value) : Ob.le o o v v := by cases o <;> simp [Ob.le]
theorem Ob.le_trans {o o' o'' : Ob} {v v' v'' : Value} (h : Ob.le o o' v v') (h' : Ob.le o' o'' v' v'') : Ob.le o o'' v v'' := by
  cases o <;> cases o' <;> simp [Ob.le] at h <;> cases o'' <;> simp [Ob.le] at h' ⊢
  · exact ⟨Nat.le_trans h.1 h'.1, fun e => (h.2 (by omega)).trans (h'.2 (by omega))⟩
  · exact ⟨h.1.trans h'.1, h.2.1.trans h'.2.1, Nat.le_trans h.2.2.1 h'.2.2.1, fun e => (h.2.2.2 (by omega)).trans (h'.2.2.2 (by omega))⟩
  · exact h.trans h'
  · exact h.trans h'
  · exact h.trans h'

structure Ext (K : Know) (ι : Nat → Value) (st : Store) (K' : Know) (ι' : Nat → Value) (st' : Store) : Prop where
  know : ∀ a v, K a = some v → K' a = some v
  len : st.length ≤ st'.length
  ids : ∀ id o, st[id]? = some o → ∃ o', st'[id]? = some o' ∧ Ob.le o o' (ι id) (ι' id)

theorem Ext.refl (K ι st) : Ext K ι st K ι st := ⟨fun _ _ h => h, Nat.le_refl _, fun _ o h => ⟨o, h, Ob.le_refl _ _⟩⟩
theorem Ext.trans {K ι st K1 ι1 st1 K2 ι2 st2} (h : Ext K ι st K1 ι1 st1) (h' : Ext K1 ι1 st1 K2 ι2 st2) : Ext K ι st K2 ι2 st2 :=
  ⟨fun a v e => h'.know a v (h.know a v e), Nat.le_trans h.len h'.len, fun id o e => by
    obtain ⟨o1, e1, l1⟩ := h.ids id o e
    obtain ⟨o2, e2, l2⟩ := h'.ids id o1 e1
    exact ⟨o2, e2, Ob.le_trans l1 l2⟩⟩

theorem VRel.mono {K ι st K' ι' st'} (x : Ext K ι st K' ι' st') {p : PV} {v : Value} (h : VRel K ι st p v) : VRel K' ι' st' p v := by
  induction h with
  | tree p v h => exact .tree p v (h.mono x.know)
  | own k es i A c m e h hst hle heq =>
    obtain ⟨o', e', l⟩ := x.ids i _ hst
    cases o' <;> simp [Ob.le] at l
    rename_i m' te k'
    obtain ⟨rfl, rfl, l1, l2⟩ := l
    exact .own k es i A c m' e (h.mono x.know) e' (by omega) (fun q => by rw [← heq (by omega), l2 (by omega)])
  | agg cs vs hl h1 _ ih => exact .agg cs vs hl h1 ih
  | tup ps vs hl _ ih => exact .tup ps vs hl ih
  | optr id tot off a cs hst hle heq =>
    obtain ⟨o', e', l⟩ := x.ids id _ hst
    cases o' <;> simp [Ob.le] at l
    rename_i cs'
    exact .optr id tot off a cs' e' (by omega) (fun q => by rw [← l.2 (by omega)]; exact heq (by omega))
  | osl id tot off len k A c cs hst hle hlc hn heq =>
    obtain ⟨o', e', l⟩ := x.ids id _ hst
    cases o' <;> simp [Ob.le] at l
    rename_i cs'
    exact .osl id tot off len k A c cs' e' (by omega) hlc hn (fun q => by rw [← l.2 (by omega)]; exact heq (by omega))
  | map id es b hst hb =>
    obtain ⟨o', e', l⟩ := x.ids id _ hst
    cases o' <;> simp [Ob.le] at l
    exact .map id _ b e' (by rw [← l, hb])
  | fn f caps vs hl _ ih => exact .fn f caps vs hl ih
  | yld l b fr ps asg body nt r pd hst hb =>
    obtain ⟨o', e', q⟩ := x.ids l _ hst
    cases o' <;> simp [Ob.le] at q
    exact .yld l b _ _ _ _ _ _ _ e' (by rw [← q, hb])
  | it id b m n seen hst hb =>
    obtain ⟨o', e', q⟩ := x.ids id _ hst
    cases o' <;> simp [Ob.le] at q
    exact .it id b _ _ _ e' (by rw [← q, hb])

/-- What the store tells of a loop's record (0: it is ready; 1: it is done; 2: nothing of its state; 3: nothing at all). -/
def loopIs (K : Know) (ι : Nat → Value) (st : Store) (fr : Fr) (ps : List Nat) (asg body : Code) (nt : Nat) (s : Nat) (pend : Option Code) (l : Loop) : Prop :=
  s < 3 → (l.assign = asg ∧ l.body = body ∧ l.params.toList = ps ∧ l.tmps.size = nt ∧ ∀ (t : Nat) (v : Value), l.tmps[t]? = some v → VRel K ι st (fr t) v) ∧
    (s < 2 → l.pending = pend) ∧ (s = 0 → l.state = .ready) ∧ (s = 1 → l.state = .done)

/-- An object in memory. -/
def ObRel (K : Know) (ι : Nat → Value) (st : Store) (w : World) (h : Value) : Ob → Prop
  | .cells cs => ∃ b arr e, h = .slice (some ⟨b, 0, none⟩) 0 arr.size ∧ w.heap[b]? = some (.cells arr e (0, 0)) ∧ cs.length ≤ arr.size ∧
      (∀ (i : Nat) (p : PV), cs[i]? = some p → ∃ v : Value, arr[i]? = some v ∧ VRel K ι st p v ∧ v.oneCell' = true) ∧ ∀ j : Nat, K ⟨b, j, none⟩ = none
  | .tok n e k => ∃ b cap arr, h = .slice (some ⟨b, 0, none⟩) n cap ∧ w.heap[b]? = some (.cells arr e (0, 0)) ∧ arr.size = cap * k ∧ n ≤ cap ∧ cap ≤ maxLen ∧ 0 < k ∧
      (∀ j : Nat, n * k ≤ j → K ⟨b, j, none⟩ = none)
  | .map es => ∃ b ents clock, h = .map (some b) ∧ w.heap[b]? = some (.map ents clock) ∧ ents.size = es.length ∧
      (∀ (i : Nat) (kp vp : PV), es[i]? = some (kp, vp) → ∃ en : MapEntry, ents[i]? = some en ∧ VRel K ι st kp en.key ∧ VRel K ι st vp en.val) ∧
      (∀ (i : Nat) (x : MapEntry), ents[i]? = some x → x.born = i) ∧ clock = ents.size
  | .iter m n seen => ∃ b mb, h = .pointer (some ⟨b, 0, none⟩) ∧ w.heap[b]? = some (.mapIter mb n seen.toArray n) ∧
      match m with
      | none => mb = none
      | some id => ∃ r es, mb = some r ∧ ι id = .map (some r) ∧ st[id]? = some (.map es)
  | .loop fr ps asg body nt r pd => ∃ b l, h = .pointer (some ⟨b, 0, none⟩) ∧ w.heap[b]? = some (.loop l) ∧ loopIs K ι st fr ps asg body nt r pd l

/-- Which blocks the store has. -/
def Owned (ι : Nat → Value) (st : Store) (b : Nat) : Prop := ∃ id, id < st.length ∧ hblk (ι id) = some b

/-- A variable that is known from its beginning: its block, and how long it is. -/
def GSize (G : Nat → PV) (w : World) : Prop := ∀ g cs, G g = .rptr cs → ∃ arr e fz, w.heap[g]? = some (.cells arr e fz) ∧ arr.size = cs.length
/-- The whole: known memory is as known; the globals; each object; no two objects in one block. -/
structure Rel (G : Nat → PV) (K : Know) (ι : Nat → Value) (st : Store) (w : World) : Prop where
  know : ∀ a v, K a = some v → w.cell? a = some v
  glob : ∀ g, TRel K (G g) (.pointer (some ⟨g, 0, none⟩))
  obj : ∀ id o, st[id]? = some o → ObRel K ι st w (ι id) o
  apart : ∀ i j b, i < st.length → j < st.length → hblk (ι i) = some b → hblk (ι j) = some b → i = j
  gsz : GSize G w
  gown : ∀ g cs, G g = .rptr cs → ¬ Owned ι st g

/-- A step: from one state to a later one. -/
structure Stp (G : Nat → PV) (K : Know) (ι : Nat → Value) (st : Store) (w : World) (K' : Know) (ι' : Nat → Value) (st' : Store) (w' : World) : Prop where
  rel : Rel G K' ι' st' w'
  ext : Ext K ι st K' ι' st'
  os : w'.os = w.os
  tape : w'.tape = w.tape
  output : w'.output = w.output
  size : w.heap.size ≤ w'.heap.size
  block : ∀ b, b < w.heap.size → ¬ Owned ι st b → w'.heap[b]? = w.heap[b]?
  owns : ∀ b, Owned ι' st' b → b < w.heap.size → Owned ι st b
  fresh : ∀ a v, K' a = some v → K a = some v ∨ w.heap.size ≤ a.block ∨ Owned ι st a.block

theorem Stp.refl {G K ι st w} (h : Rel G K ι st w) : Stp G K ι st w K ι st w :=
  ⟨h, Ext.refl _ _ _, rfl, rfl, rfl, Nat.le_refl _, fun _ _ _ => rfl, fun _ h _ => h, fun _ _ h => .inl h⟩
theorem Stp.trans {G K ι st w K1 ι1 st1 w1 K2 ι2 st2 w2} (h : Stp G K ι st w K1 ι1 st1 w1) (h' : Stp G K1 ι1 st1 w1 K2 ι2 st2 w2) : Stp G K ι st w K2 ι2 st2 w2 :=
  ⟨h'.rel, h.ext.trans h'.ext, h'.os.trans h.os, h'.tape.trans h.tape, h'.output.trans h.output, Nat.le_trans h.size h'.size,
   fun b hb hn => (h'.block b (Nat.lt_of_lt_of_le hb h.size) (fun q => hn (h.owns b q hb))).trans (h.block b hb hn),
   fun b hb hl => h.owns b (h'.owns b hb (Nat.lt_of_lt_of_le hl h.size)) hl,
   fun a v e => by
     rcases h'.fresh a v e with q | q | q
     · exact h.fresh a v q
     · exact .inr (.inl (Nat.le_trans h.size q))
     · by_cases hl : a.block < w.heap.size
       · exact .inr (.inr (h.owns _ q hl))
       · exact .inr (.inl (by omega))⟩

/-- The count of draws is nothing that is looked at. -/
theorem ObRel.drew {K ι st w h o} (q : ObRel K ι st w h o) : ObRel K ι st w.drew h o := by cases o <;> exact q
theorem Rel.drew {G K ι st w} (h : Rel G K ι st w) : Rel G K ι st w.drew :=
  ⟨fun a v e => by rw [World.cell?_drew]; exact h.know a v e, h.glob, fun id o e => (h.obj id o e).drew, h.apart, h.gsz, h.gown⟩
theorem Stp.drew {G K ι st w} (h : Rel G K ι st w) : Stp G K ι st w K ι st w.drew :=
  ⟨h.drew, Ext.refl _ _ _, rfl, rfl, rfl, Nat.le_refl _, fun _ _ _ => rfl, fun _ h _ => h, fun _ _ h => .inl h⟩

theorem Rel.owned_lt {G K ι st w} (h : Rel G K ι st w) {b : Nat} (hb : Owned ι st b) : b < w.heap.size := by
  obtain ⟨id, hid, he⟩ := hb
  have hs : st[id]? = some st[id] := List.getElem?_eq_getElem hid
  have q := h.obj id _ hs
  have lt : ∀ {r : Nat} {o : Go.Obj}, w.heap[r]? = some o → r < w.heap.size := fun e => (Array.getElem?_eq_some_iff.1 e).1
  cases ho : st[id] <;> rw [ho] at q
  · obtain ⟨b', arr, e, hh, hw, _⟩ := q
    rw [hh] at he; simp [hblk] at he; subst he; exact lt hw
  · obtain ⟨b', cap, arr, hh, hw, _⟩ := q
    rw [hh] at he; simp [hblk] at he; subst he; exact lt hw
  · obtain ⟨b', ents, clock, hh, hw, _⟩ := q
    rw [hh] at he; simp [hblk] at he; subst he; exact lt hw
  · obtain ⟨b', mb, hh, hw, _⟩ := q
    rw [hh] at he; simp [hblk] at he; subst he; exact lt hw
  · obtain ⟨b', l, hh, hw, _⟩ := q
    rw [hh] at he; simp [hblk] at he; subst he; exact lt hw

theorem GSize.keep {G w w'} (h : GSize G w) (hb : ∀ b, b < w.heap.size → (∀ cs, G b = .rptr cs → w'.heap[b]? = w.heap[b]?)) : GSize G w' := fun g cs e => by
  obtain ⟨arr, t, fz, h1, h2⟩ := h g cs e
  exact ⟨arr, t, fz, by rw [hb g (Array.getElem?_eq_some_iff.1 h1).1 cs e]; exact h1, h2⟩
theorem GSize.lt {G w} (h : GSize G w) {g cs} (e : G g = .rptr cs) : g < w.heap.size := by
  obtain ⟨arr, t, fz, h1, h2⟩ := h g cs e
  exact (Array.getElem?_eq_some_iff.1 h1).1
theorem Rel.know_lt {G K ι st w} (h : Rel G K ι st w) {a : Addr} {v : Value} (e : K a = some v) : a.block < w.heap.size := World.block_lt_of_cell? w a (h.know a v e)

/-- An object's rest in memory is carried to a world in which its block lies unturned, what it holds being carried too. -/
theorem ObRel.carry {K ι st w K' ι' st' w'} {h : Value} {o : Ob} (q : ObRel K ι st w h o) (x : Ext K ι st K' ι' st')
    (hb : ∀ b, hblk h = some b → w'.heap[b]? = w.heap[b]?) (hk : ∀ b, hblk h = some b → ∀ j, K ⟨b, j, none⟩ = none → K' ⟨b, j, none⟩ = none) : ObRel K' ι' st' w' h o := by
  cases o with
  | cells cs =>
    obtain ⟨b, arr, e, hh, hw, hl, hc, hn⟩ := q
    have hb' := hb b (by rw [hh]; rfl)
    exact ⟨b, arr, e, hh, by rw [hb']; exact hw, hl, fun i p hp => let ⟨v, h1, h2, h3⟩ := hc i p hp; ⟨v, h1, h2.mono x, h3⟩, fun j => hk b (by rw [hh]; rfl) j (hn j)⟩
  | tok n e k =>
    obtain ⟨b, cap, arr, hh, hw, h1, h2, h3, h4, h5⟩ := q
    have hb' := hb b (by rw [hh]; rfl)
    exact ⟨b, cap, arr, hh, by rw [hb']; exact hw, h1, h2, h3, h4, fun j hj => hk b (by rw [hh]; rfl) j (h5 j hj)⟩
  | map es =>
    obtain ⟨b, ents, clock, hh, hw, h1, h2, h3⟩ := q
    have hb' := hb b (by rw [hh]; rfl)
    exact ⟨b, ents, clock, hh, by rw [hb']; exact hw, h1, fun i kp vp hp => let ⟨en, a1, a2, a3⟩ := h2 i kp vp hp; ⟨en, a1, a2.mono x, a3.mono x⟩, h3⟩
  | iter m n seen =>
    obtain ⟨b, mb, hh, hw, h1⟩ := q
    have hb' := hb b (by rw [hh]; rfl)
    refine ⟨b, mb, hh, by rw [hb']; exact hw, ?_⟩
    cases m with
    | none => exact h1
    | some id =>
      obtain ⟨r, es, e1, e2, e3⟩ := h1
      obtain ⟨o', e', l⟩ := x.ids id _ e3
      cases o' <;> simp [Ob.le] at l
      exact ⟨r, _, e1, by rw [← l, e2], e'⟩
  | loop fr ps asg body nt r pd =>
    obtain ⟨b, l, hh, hw, h1⟩ := q
    have hb' := hb b (by rw [hh]; rfl)
    exact ⟨b, l, hh, by rw [hb']; exact hw, fun hs => let ⟨⟨h1, h2, h3, h4, h5⟩, h6⟩ := h1 hs; ⟨⟨h1, h2, h3, h4, fun t v ht => (h5 t v ht).mono x⟩, h6⟩⟩

theorem hblk_ob {K ι st w h o} (q : ObRel K ι st w h o) : ∃ b, hblk h = some b := by
  cases o with
  | cells cs => obtain ⟨b, arr, e, hh, _⟩ := q; exact ⟨b, by rw [hh]; rfl⟩
  | tok n e k => obtain ⟨b, cap, arr, hh, _⟩ := q; exact ⟨b, by rw [hh]; rfl⟩
  | map es => obtain ⟨b, ents, clock, hh, _⟩ := q; exact ⟨b, by rw [hh]; rfl⟩
  | iter m n seen => obtain ⟨b, mb, hh, _⟩ := q; exact ⟨b, by rw [hh]; rfl⟩
  | loop fr ps asg body nt r pd => obtain ⟨b, l, hh, _⟩ := q; exact ⟨b, by rw [hh]; rfl⟩

end Go.Pv
end
section
namespace Go.Pv

def ins (ι : Nat → Value) (n : Nat) (h : Value) : Nat → Value := fun i => if i = n then h else ι i
theorem ins_same (ι : Nat → Value) (n : Nat) (h : Value) : ins ι n h n = h := by simp [ins]
theorem ins_other (ι : Nat → Value) {n i : Nat} (h : Value) (hne : i ≠ n) : ins ι n h i = ι i := by simp [ins, hne]

theorem Ext.newOb (K : Know) (ι : Nat → Value) (st : Store) (o : Ob) (hv : Value) : Ext K ι st K (ins ι st.length hv) (st ++ [o]) :=
  ⟨fun _ _ h => h, by simp, fun id o' e => by
    have hlt : id < st.length := (List.getElem?_eq_some_iff.1 e).1
    exact ⟨o', by rw [List.getElem?_append_left hlt]; exact e, by rw [ins_other _ _ (by omega)]; exact Ob.le_refl _ _⟩⟩

theorem heap_lt {w : World} {b : Nat} {o : Go.Obj} (h : w.heap[b]? = some o) : b < w.heap.size := (Array.getElem?_eq_some_iff.1 h).1

/-- A new object. -/
theorem Stp.newOb {G K ι st w} (h : Rel G K ι st w) (o : Ob) (go : Go.Obj) (hv : Value) (hb : hblk hv = some w.heap.size)
    (ho : Ext K ι st K (ins ι st.length hv) (st ++ [o]) → (∀ j, K ⟨w.heap.size, j, none⟩ = none) → ObRel K (ins ι st.length hv) (st ++ [o]) (w.alloc go) hv o) :
    Stp G K ι st w K (ins ι st.length hv) (st ++ [o]) (w.alloc go) := by
  have x := Ext.newOb K ι st o hv
  have hno : ∀ j, K ⟨w.heap.size, j, none⟩ = none := by
    intro j
    cases e : K ⟨w.heap.size, j, none⟩ with
    | none => rfl
    | some v => have := h.know_lt e; simp at this
  refine ⟨⟨fun a v e => ?_, h.glob, fun id o' e => ?_, fun i j b hi hj ei ej => ?_, h.gsz.keep fun b hlt _ _ => heap_alloc_old w go b hlt, fun g cs e q => ?_⟩, x, rfl, rfl, rfl, by simp, fun b hlt _ => heap_alloc_old w go b hlt, ?_, fun a v e => .inl e⟩
  · rw [World.cell?_alloc_lt w go a (h.know_lt e)]; exact h.know a v e
  · by_cases hid : id = st.length
    · subst hid
      simp at e
      subst e
      rw [ins_same]
      exact ho x hno
    · have hlt : id < st.length := by
        have := (List.getElem?_eq_some_iff.1 e).1
        simp at this; omega
      rw [List.getElem?_append_left hlt] at e
      rw [ins_other _ _ hid]
      exact (h.obj id o' e).carry x (fun b hb' => heap_alloc_old w go b (h.owned_lt ⟨id, hlt, hb'⟩)) (fun _ _ _ q => q)
  · simp at hi hj
    by_cases h1 : i = st.length <;> by_cases h2 : j = st.length
    · omega
    · exfalso
      subst h1
      rw [ins_same, hb] at ei
      rw [ins_other _ _ h2] at ej
      have := h.owned_lt ⟨j, by omega, ej⟩
      injection ei with ei
      omega
    · exfalso
      subst h2
      rw [ins_same, hb] at ej
      rw [ins_other _ _ h1] at ei
      have := h.owned_lt ⟨i, by omega, ei⟩
      injection ej with ej
      omega
    · rw [ins_other _ _ h1] at ei
      rw [ins_other _ _ h2] at ej
      exact h.apart i j b (by omega) (by omega) ei ej
  · obtain ⟨i, hi, ei⟩ := q
    have hg := h.gsz.lt e
    simp at hi
    by_cases h1 : i = st.length
    · subst h1
      rw [ins_same, hb] at ei
      injection ei with ei
      omega
    · rw [ins_other _ _ h1] at ei
      exact h.gown g cs e ⟨i, by omega, ei⟩
  · rintro b ⟨id, hid, e⟩ hlt
    simp at hid
    by_cases h1 : id = st.length
    · subst h1
      rw [ins_same, hb] at e
      injection e with e
      omega
    · rw [ins_other _ _ h1] at e
      exact ⟨id, by omega, e⟩

/-- Known memory with a block more. -/
def addK (K : Know) (b : Nat) (xs : List Value) : Know := fun a => if a.block = b ∧ a.spot = none ∧ a.off < xs.length then xs[a.off]? else K a
theorem addK_at (K : Know) (b : Nat) (xs : List Value) (j : Nat) (hj : j < xs.length) : addK K b xs ⟨b, j, none⟩ = xs[j]? := by simp [addK, hj]
theorem addK_past (K : Know) (b : Nat) (xs : List Value) (j : Nat) (hj : xs.length ≤ j) : addK K b xs ⟨b, j, none⟩ = K ⟨b, j, none⟩ := by
  simp only [addK]; rw [if_neg (by simp; omega)]
theorem addK_other (K : Know) (b : Nat) (xs : List Value) (a : Addr) (hb : a.block ≠ b) : addK K b xs a = K a := by simp [addK, hb]

/-- A new row of shared memory. -/
theorem Stp.newKnow {G K ι st w} (h : Rel G K ι st w) (arr : Array Value) (e : TypeId) (xs : List Value) (hx : ∀ j, j < xs.length → arr[j]? = xs[j]?) :
    Stp G K ι st w (addK K w.heap.size xs) ι st (w.alloc (.cells arr e)) := by
  have hno : ∀ a v, K a = some v → a.block ≠ w.heap.size := fun a v q => by have := h.know_lt q; omega
  have hk : ∀ a v, K a = some v → addK K w.heap.size xs a = some v := fun a v q => by rw [addK_other _ _ _ _ (hno a v q)]; exact q
  have x : Ext K ι st (addK K w.heap.size xs) ι st := ⟨hk, Nat.le_refl _, fun id o e => ⟨o, e, Ob.le_refl _ _⟩⟩
  refine ⟨⟨fun a v q => ?_, fun g => (h.glob g).mono hk, fun id o q => ?_, h.apart, h.gsz.keep fun b hlt _ _ => heap_alloc_old w _ b hlt, h.gown⟩, x, rfl, rfl, rfl, by simp, fun b hlt _ => heap_alloc_old w _ b hlt, fun b hb _ => hb, fun a v q => ?_⟩
  · by_cases hc : a.block = w.heap.size ∧ a.spot = none ∧ a.off < xs.length
    · obtain ⟨b, off, sp⟩ := a
      obtain ⟨rfl, rfl, hlt⟩ := hc
      simp only at hlt
      rw [addK_at _ _ _ _ hlt] at q
      rw [World.cell?_alloc_new, hx _ hlt]
      exact q
    · rw [addK, if_neg hc] at q
      rw [World.cell?_alloc_lt w _ a (h.know_lt q)]
      exact h.know a v q
  · have hid : id < st.length := (List.getElem?_eq_some_iff.1 q).1
    exact (h.obj id o q).carry x (fun b hb' => heap_alloc_old w _ b (h.owned_lt ⟨id, hid, hb'⟩))
      (fun b hb' j hn => by
        have := h.owned_lt ⟨id, hid, hb'⟩
        rw [addK_other _ _ _ _ (by simp; omega)]; exact hn)
  · by_cases hc : a.block = w.heap.size
    · exact .inr (.inl (by omega))
    · rw [addK_other _ _ _ _ hc] at q; exact .inl q

theorem getElem?_set_ne' {α : Type} (l : List α) (i j : Nat) (x : α) (h : i ≠ j) : (l.set i x)[j]? = l[j]? := by simp [List.getElem?_set, h]
theorem getElem?_set_eq' {α : Type} (l : List α) (i : Nat) (x y : α) (h : l[i]? = some y) : (l.set i x)[i]? = some x := by
  have := (List.getElem?_eq_some_iff.1 h).1
  simp [List.getElem?_set, this]

theorem Ext.setOb (K : Know) (ι : Nat → Value) (st : Store) (id : Nat) (o o' : Ob) (h : st[id]? = some o) (hv : Value) (hle : Ob.le o o' (ι id) hv) (K' : Know) (hK : ∀ a v, K a = some v → K' a = some v) :
    Ext K ι st K' (ins ι id hv) (st.set id o') :=
  ⟨hK, by simp, fun i q e => by
    by_cases hi : i = id
    · subst hi
      rw [h] at e
      injection e with e
      subst e
      exact ⟨o', getElem?_set_eq' _ _ _ _ h, by rw [ins_same]; exact hle⟩
    · exact ⟨q, by rw [getElem?_set_ne' _ _ _ _ (Ne.symm hi)]; exact e, by rw [ins_other _ _ hi]; exact Ob.le_refl _ _⟩⟩

/-- An object turns, in its own block or with a new one. -/
theorem Stp.setOb {G K ι st w} (h : Rel G K ι st w) (id : Nat) (o o' : Ob) (hid : st[id]? = some o) (hv : Value) (hle : Ob.le o o' (ι id) hv) (K' : Know)
    (hK : ∀ a v, K a = some v → K' a = some v) (w' : World) (b b' : Nat) (hb : hblk (ι id) = some b) (hb' : hblk hv = some b') (hnew : b' = b ∨ w.heap.size ≤ b')
    (hos : w'.os = w.os) (htape : w'.tape = w.tape) (hout : w'.output = w.output) (hsz : w.heap.size ≤ w'.heap.size)
    (hblock : ∀ k, k < w.heap.size → k ≠ b → w'.heap[k]? = w.heap[k]?)
    (hknow : ∀ a v, K' a = some v → w'.cell? a = some v)
    (hfresh : ∀ a v, K' a = some v → K a = some v ∨ a.block = b')
    (ho : Ext K ι st K' (ins ι id hv) (st.set id o') → ObRel K' (ins ι id hv) (st.set id o') w' hv o') :
    Stp G K ι st w K' (ins ι id hv) (st.set id o') w' := by
  have x := Ext.setOb K ι st id o o' hid hv hle K' hK
  have hlt : id < st.length := (List.getElem?_eq_some_iff.1 hid).1
  have hbl : b < w.heap.size := h.owned_lt ⟨id, hlt, hb⟩
  have ne_of : ∀ i b'', i < st.length → i ≠ id → hblk (ι i) = some b'' → b'' ≠ b ∧ b'' ≠ b' ∧ b'' < w.heap.size := by
    intro i b'' hi hne e
    have h1 : b'' < w.heap.size := h.owned_lt ⟨i, hi, e⟩
    have h2 : b'' ≠ b := fun q => hne (h.apart i id b hi hlt (q ▸ e) hb)
    exact ⟨h2, by rcases hnew with q | q <;> omega, h1⟩
  have kn : ∀ b'' j, b'' ≠ b' → K ⟨b'', j, none⟩ = none → K' ⟨b'', j, none⟩ = none := by
    intro b'' j hne e
    cases q : K' ⟨b'', j, none⟩ with
    | none => rfl
    | some v =>
      rcases hfresh _ v q with r | r
      · rw [e] at r; cases r
      · exact absurd r hne
  refine ⟨⟨hknow, fun g => (h.glob g).mono hK, fun i q e => ?_, fun i j b'' hi hj ei ej => ?_, h.gsz.keep fun k hk cs e => hblock k hk (fun q => h.gown k cs e ⟨id, hlt, q ▸ hb⟩), fun g cs e q => ?_⟩, x, hos, htape, hout, hsz, fun k hk hn => hblock k hk (fun q => hn ⟨id, hlt, q ▸ hb⟩), ?_, fun a v q => ?_⟩
  · by_cases hi : i = id
    · subst hi
      rw [getElem?_set_eq' _ _ _ _ hid] at e
      injection e with e
      subst e
      rw [ins_same]
      exact ho x
    · rw [getElem?_set_ne' _ _ _ _ (Ne.symm hi)] at e
      rw [ins_other _ _ hi]
      have hil : i < st.length := (List.getElem?_eq_some_iff.1 e).1
      exact (h.obj i q e).carry x (fun k hk => hblock k (ne_of i k hil hi hk).2.2 (ne_of i k hil hi hk).1) (fun k hk j hn => kn k j (ne_of i k hil hi hk).2.1 hn)
  · simp only [List.length_set] at hi hj
    by_cases h1 : i = id <;> by_cases h2 : j = id
    · omega
    · exfalso
      subst h1
      rw [ins_same, hb'] at ei
      rw [ins_other _ _ h2] at ej
      injection ei with ei
      exact (ne_of j b'' hj h2 ej).2.1 ei.symm
    · exfalso
      subst h2
      rw [ins_same, hb'] at ej
      rw [ins_other _ _ h1] at ei
      injection ej with ej
      exact (ne_of i b'' hi h1 ei).2.1 ej.symm
    · rw [ins_other _ _ h1] at ei
      rw [ins_other _ _ h2] at ej
      exact h.apart i j b'' hi hj ei ej
  · obtain ⟨i, hi, ei⟩ := q
    have hg := h.gsz.lt e
    simp only [List.length_set] at hi
    by_cases h1 : i = id
    · subst h1
      rw [ins_same, hb'] at ei
      injection ei with ei
      rcases hnew with q | q
      · exact h.gown g cs e ⟨i, hlt, by rw [hb, ← q, ei]⟩
      · omega
    · rw [ins_other _ _ h1] at ei
      exact h.gown g cs e ⟨i, hi, ei⟩
  · rintro k ⟨i, hi, e⟩ hk
    simp only [List.length_set] at hi
    by_cases h1 : i = id
    · subst h1
      rw [ins_same, hb'] at e
      injection e with e
      rcases hnew with q | q
      · exact ⟨i, hlt, by rw [hb, ← q, e]⟩
      · omega
    · rw [ins_other _ _ h1] at e
      exact ⟨i, hi, e⟩
  · rcases hfresh a v q with r | r
    · exact .inl r
    · rcases hnew with s | s
      · exact .inr (.inr ⟨id, hlt, by rw [hb, r, s]⟩)
      · exact .inr (.inl (by omega))

theorem ins_id (ι : Nat → Value) (id : Nat) : ins ι id (ι id) = ι := by
  funext i
  by_cases h : i = id
  · subst h; exact ins_same _ _ _
  · exact ins_other _ _ h

theorem heap_setRow_same (w : World) (b : Nat) (arr cs : Array Value) (e : TypeId) (h : w.heap[b]? = some (.cells arr e (0, 0))) : (w.setRow b cs).heap[b]? = some (.cells cs e (0, 0)) := setRow_heap w b arr cs e _ h
theorem heap_setRow_other (w : World) (b k : Nat) (cs : Array Value) (h : k ≠ b) : (w.setRow b cs).heap[k]? = w.heap[k]? := by
  simp only [World.setRow, Array.getElem?_modify]
  rw [if_neg (by omega)]
theorem cell_setRow_other (w : World) (b : Nat) (cs : Array Value) (a : Addr) (h : a.block ≠ b) : (w.setRow b cs).cell? a = w.cell? a := World.cell?_of_block (w := w) (heap_setRow_other w b a.block cs h)

/-- A list of cells with others put in from 'off' on. -/
def splice {α : Type} (cs : List α) (off : Nat) (vs : List α) : List α := cs.take off ++ vs ++ cs.drop (off + vs.length)
theorem splice_length {α : Type} (cs vs : List α) (off : Nat) (h : off + vs.length ≤ cs.length) : (splice cs off vs).length = cs.length := by simp [splice]; omega
theorem splice_get {α : Type} (cs vs : List α) (off : Nat) (h : off + vs.length ≤ cs.length) (i : Nat) : (splice cs off vs)[i]? = if off ≤ i ∧ i < off + vs.length then vs[i - off]? else cs[i]? := by
  unfold splice
  by_cases h1 : i < off
  · rw [List.append_assoc, List.getElem?_append_left (by simp; omega), List.getElem?_take_of_lt h1, if_neg (by omega)]
  · by_cases h2 : i < off + vs.length
    · rw [if_pos ⟨by omega, h2⟩, List.getElem?_append_left (by simp; omega), List.getElem?_append_right (by simp; omega)]
      congr 1
      simp
      omega
    · rw [if_neg (by omega), List.getElem?_append_right (by simp; omega), List.getElem?_drop]
      congr 1
      simp
      omega

theorem arr_splice (arr : Array Value) (off : Nat) (vs : List Value) (h : off + vs.length ≤ arr.size) (i : Nat) :
    (arr.toList.take off ++ vs ++ arr.toList.drop (off + vs.length)).toArray[i]? = if off ≤ i ∧ i < off + vs.length then vs[i - off]? else arr[i]? := by
  have := splice_get arr.toList vs off (by simpa using h) i
  simpa [splice] using this

/-- A store into an object's cells. -/
theorem Stp.store {G K ι st w} (h : Rel G K ι st w) (id : Nat) (cs : List PV) (hid : st[id]? = some (.cells cs)) (off : Nat) (ps : List PV) (vs : List Value) (hl : ps.length = vs.length)
    (hfit : off + ps.length ≤ cs.length) (h1 : ∀ v ∈ vs, v.oneCell' = true) (hv : ∀ (i : Nat) (p : PV) (v : Value), ps[i]? = some p → vs[i]? = some v → VRel K ι st p v) :
    ∃ b arr e, ι id = .slice (some ⟨b, 0, none⟩) 0 arr.size ∧ w.heap[b]? = some (.cells arr e (0, 0)) ∧ off + vs.length ≤ arr.size ∧
      Stp G K ι st w K ι (st.set id (.cells (splice cs off ps))) (w.setRow b (arr.toList.take off ++ vs ++ arr.toList.drop (off + vs.length)).toArray) := by
  obtain ⟨b, arr, e, hh, hw, hle, hc, hn⟩ := h.obj id _ hid
  have hfit' : off + vs.length ≤ arr.size := by omega
  refine ⟨b, arr, e, hh, hw, hfit', ?_⟩
  have hblt := heap_lt hw
  have hsz : (arr.toList.take off ++ vs ++ arr.toList.drop (off + vs.length)).toArray.size = arr.size := by simp; omega
  have key := Stp.setOb h id (.cells cs) (.cells (splice cs off ps)) hid (ι id) (by simp [Ob.le, splice_length cs ps off hfit]) K (fun _ _ q => q)
    (w.setRow b (arr.toList.take off ++ vs ++ arr.toList.drop (off + vs.length)).toArray) b b (by rw [hh]; rfl) (by rw [hh]; rfl) (.inl rfl) rfl rfl rfl (by simp)
    (fun k _ hk => heap_setRow_other w b k _ hk)
    (fun a v q => by
      by_cases hab : a.block = b
      · exfalso
        obtain ⟨ab, ao, as⟩ := a
        simp only at hab
        subst hab
        have hcell := h.know _ _ q
        cases as with
        | some s => simp [World.cell?, hw] at hcell
        | none => rw [hn ao] at q; cases q
      · rw [cell_setRow_other w b _ a hab]; exact h.know a v q)
    (fun a v q => .inl q)
    (fun x => ⟨b, _, e, by rw [hsz]; exact hh, heap_setRow_same w b arr _ e hw, by rw [splice_length cs ps off hfit, hsz]; exact hle, fun i p hp => by
      rw [splice_get cs ps off hfit] at hp
      rw [arr_splice arr off vs hfit']
      by_cases hr : off ≤ i ∧ i < off + ps.length
      · rw [if_pos hr] at hp
        rw [if_pos (by omega)]
        have hlt : i - off < vs.length := by omega
        have hg : vs[i - off]? = some vs[i - off] := List.getElem?_eq_getElem hlt
        exact ⟨vs[i - off], hg, (hv _ p _ hp hg).mono x, h1 _ (List.getElem_mem hlt)⟩
      · rw [if_neg hr] at hp
        rw [if_neg (by omega)]
        obtain ⟨v, a1, a2, a3⟩ := hc i p hp
        exact ⟨v, a1, a2.mono x, a3⟩, hn⟩)
  rw [ins_id] at key
  exact key

end Go.Pv
end
section
namespace Go.Pv

def flatF (f : Nat → Nat → Value) (n k : Nat) : List Value := (List.range (n * k)).map fun q => f (q / k) (q % k)
theorem flatF_length (f n k) : (flatF f n k).length = n * k := by simp [flatF]
theorem flatF_get (f : Nat → Nat → Value) (n k q : Nat) (h : q < n * k) : (flatF f n k)[q]? = some (f (q / k) (q % k)) := by simp [flatF, h]
theorem row_lt {j i n k : Nat} (hj : j < n) (hi : i < k) : j * k + i < n * k := by
  have : (j + 1) * k ≤ n * k := Nat.mul_le_mul_right k hj
  rw [Nat.add_mul, Nat.one_mul] at this
  omega
theorem row_div {j i k : Nat} (hi : i < k) : (j * k + i) / k = j := by
  have hk : 0 < k := by omega
  rw [Nat.add_comm, Nat.add_mul_div_right _ _ hk, Nat.div_eq_of_lt hi, Nat.zero_add]
theorem row_mod {j i k : Nat} (hi : i < k) : (j * k + i) % k = i := by rw [Nat.add_comm, Nat.add_mul_mod_self_right, Nat.mod_eq_of_lt hi]
theorem flatF_at (f : Nat → Nat → Value) {n k j i : Nat} (hj : j < n) (hi : i < k) : (flatF f n k)[j * k + i]? = some (f j i) := by
  rw [flatF_get _ _ _ _ (row_lt hj hi), row_div hi, row_mod hi]
theorem flatF_mem {f : Nat → Nat → Value} {n k : Nat} {v : Value} (h : v ∈ flatF f n k) : ∃ j i, v = f j i := by
  simp [flatF] at h
  obtain ⟨q, _, rfl⟩ := h
  exact ⟨_, _, rfl⟩
theorem split_row {q n k : Nat} (h : q < n * k) : q = q / k * k + q % k ∧ q / k < n ∧ q % k < k := by
  have hk : 0 < k := by
    rcases Nat.eq_zero_or_pos k with e | e
    · subst e; simp at h
    · exact e
  refine ⟨(Nat.div_add_mod' q k).symm, ?_, Nat.mod_lt _ hk⟩
  exact Nat.div_lt_of_lt_mul (by rw [Nat.mul_comm]; exact h)

/-- What a shared slice reads as: its cells. -/
theorem TRel.slCells {K : Know} {k : Nat} {es : List (List PV)} {t : Tok} {v : Value} (h : TRel K (.sl k es t) v) :
    ∃ (A : Option Addr) (c b off : Nat) (f : Nat → Nat → Value), v = .slice A es.length c ∧ (∀ (j : Nat) (e : List PV), es[j]? = some e → e.length = k) ∧ (es ≠ [] → A = some ⟨b, off, none⟩) ∧
      (∀ q, q < es.length * k → K ⟨b, off + q, none⟩ = some (f (q / k) (q % k))) ∧
      (∀ (j i : Nat) (e : List PV) (p : PV), es[j]? = some e → e[i]? = some p → TRel K p (f j i)) ∧ (∀ j i : Nat, (f j i).oneCell' = true) ∧ es.length ≤ c ∧ c ≤ maxLen ∧ (A = none → c = 0) ∧ (t = .ro ∨ (t = .full ∧ c = es.length)) := by
  cases h with
  | sl _ _ _ A c b off f hk hA hK hv h1 hc hm hn ht =>
    refine ⟨A, c, b, off, f, rfl, hk, hA, fun q hq => ?_, hv, h1, hc, hm, hn, ht⟩
    obtain ⟨e, a1, a2⟩ := split_row hq
    have := hK (q / k) (q % k) a1 a2
    rw [← e] at this
    exact this

/-- The same with whatever knowledge of its capacity. -/
theorem VRel.slTree {K ι st} {k : Nat} {es : List (List PV)} {t : Tok} {v : Value} (h : VRel K ι st (.sl k es t) v) : TRel K (.sl k es .ro) v := by
  cases h with
  | tree _ _ h =>
    cases h with
    | sl _ _ _ A c b off f hk hA hK hv h1 hc hm hn ht => exact .sl k es .ro A c b off f hk hA hK hv h1 hc hm hn (.inl rfl)
  | own _ _ i A c m e h hst hle heq => exact h

theorem TRel.slOf {K : Know} (k : Nat) (es : List (List PV)) (b c : Nat) (xs : List Value) (hx : xs.length = es.length * k) (hK : ∀ q, q < xs.length → K ⟨b, q, none⟩ = xs[q]?)
    (hk : ∀ (j : Nat) (e : List PV), es[j]? = some e → e.length = k)
    (hv : ∀ (j i : Nat) (e : List PV) (p : PV) (v : Value), es[j]? = some e → e[i]? = some p → xs[j * k + i]? = some v → TRel K p v) (h1 : ∀ v ∈ xs, v.oneCell' = true)
    (hc : es.length ≤ c) (hm : c ≤ maxLen) (t : Tok) (ht : t = .ro ∨ (t = .full ∧ c = es.length)) : TRel K (.sl k es t) (.slice (some ⟨b, 0, none⟩) es.length c) := by
  have get : ∀ j i, j < es.length → i < k → ∃ v, xs[j * k + i]? = some v := fun j i hj hi =>
    ⟨_, List.getElem?_eq_getElem (by rw [hx]; exact row_lt hj hi)⟩
  refine .sl k es t _ c b 0 (fun j i => (xs[j * k + i]?).getD (.bool false)) hk (fun _ => rfl) (fun j i hj hi => ?_) (fun j i e p he hp => ?_) (fun j i => ?_) hc hm (fun h => by cases h) ht
  · obtain ⟨v, e⟩ := get j i hj hi
    have hlt : j * k + i < xs.length := by rw [hx]; exact row_lt hj hi
    rw [Nat.zero_add, hK _ hlt, e]
    rfl
  · have hj : j < es.length := (List.getElem?_eq_some_iff.1 he).1
    have hi : i < k := by rw [← hk j e he]; exact (List.getElem?_eq_some_iff.1 hp).1
    obtain ⟨v, e'⟩ := get j i hj hi
    rw [e']
    exact hv j i e p v he hp e'
  · cases e : xs[j * k + i]? with
    | none => rfl
    | some v => exact h1 v (List.mem_of_getElem? e)

/-- Some cells of a token's block become known. -/
theorem Stp.learn {G K ι st w} (h : Rel G K ι st w) (b : Nat) (xs : List Value) (hx : ∀ j, j < xs.length → w.cell? ⟨b, j, none⟩ = xs[j]?)
    (ho : ∀ id o, st[id]? = some o → hblk (ι id) = some b → ∃ n e k, o = .tok n e k ∧ xs.length ≤ n * k) (hown : Owned ι st b) : Stp G K ι st w (addK K b xs) ι st w := by
  have hk : ∀ a v, K a = some v → addK K b xs a = some v := by
    intro a v q
    by_cases hc : a.block = b ∧ a.spot = none ∧ a.off < xs.length
    · obtain ⟨ab, ao, as⟩ := a
      obtain ⟨rfl, rfl, hlt⟩ := hc
      simp only at hlt
      rw [addK_at _ _ _ _ hlt, ← hx _ hlt]
      exact h.know _ _ q
    · rw [addK, if_neg hc]; exact q
  have x : Ext K ι st (addK K b xs) ι st := ⟨hk, Nat.le_refl _, fun id o e => ⟨o, e, Ob.le_refl _ _⟩⟩
  refine ⟨⟨fun a v q => ?_, fun g => (h.glob g).mono hk, fun id o q => ?_, h.apart, h.gsz, h.gown⟩, x, rfl, rfl, rfl, Nat.le_refl _, fun _ _ _ => rfl, fun _ q _ => q, fun a v q => ?_⟩
  · by_cases hc : a.block = b ∧ a.spot = none ∧ a.off < xs.length
    · obtain ⟨ab, ao, as⟩ := a
      obtain ⟨rfl, rfl, hlt⟩ := hc
      simp only at hlt
      rw [addK_at _ _ _ _ hlt] at q
      rw [hx _ hlt]; exact q
    · rw [addK, if_neg hc] at q; exact h.know a v q
  · have q' := h.obj id o q
    by_cases hb : hblk (ι id) = some b
    · obtain ⟨n, e, k, rfl, hlen⟩ := ho id o q hb
      obtain ⟨b', cap, arr, hh, hw, h1, h2, h3, h4, h5⟩ := q'
      refine ⟨b', cap, arr, hh, hw, h1, h2, h3, h4, fun j hj => ?_⟩
      rw [hh] at hb
      simp [hblk] at hb
      subst hb
      rw [addK_past _ _ _ _ (by omega)]
      exact h5 j hj
    · exact q'.carry x (fun _ _ => rfl) (fun b' hb' j hn => by
        have : b' ≠ b := fun e => hb (e ▸ hb')
        rw [addK_other _ _ _ _ (by simpa using this)]; exact hn)
  · by_cases hc : a.block = b
    · exact .inr (.inr (hc ▸ hown))
    · rw [addK_other _ _ _ _ hc] at q; exact .inl q

/-- A new row of the call's own, known as far as it is filled. -/
theorem Stp.tokNew {G K ι st w} (h : Rel G K ι st w) (arr : Array Value) (e : TypeId) (n cap k : Nat) (xs : List Value) (hsz : arr.size = cap * k) (hn : n ≤ cap) (hm : cap ≤ maxLen) (hk : 0 < k)
    (hl : xs.length = n * k) (hx : ∀ j, j < xs.length → arr[j]? = xs[j]?) :
    Stp G K ι st w (addK K w.heap.size xs) (ins ι st.length (.slice (some ⟨w.heap.size, 0, none⟩) n cap)) (st ++ [.tok n e k]) (w.alloc (.cells arr e)) := by
  have s1 := Stp.newOb h (.tok n e k) (.cells arr e) (.slice (some ⟨w.heap.size, 0, none⟩) n cap) rfl
    (fun _ hno => ⟨w.heap.size, cap, arr, rfl, heap_alloc_new w _, hsz, hn, hm, hk, fun j _ => hno j⟩)
  refine s1.trans (Stp.learn s1.rel w.heap.size xs (fun j hj => by rw [World.cell?_alloc_new]; exact hx j hj) (fun id o q hb => ?_) ⟨st.length, by simp, by rw [ins_same]; rfl⟩)
  have : id = st.length := s1.rel.apart id st.length w.heap.size (List.getElem?_eq_some_iff.1 q).1 (by simp) hb (by rw [ins_same]; rfl)
  subst this
  simp at q
  exact ⟨n, e, k, q.symm, by omega⟩

theorem take_getElem? {α : Type} (l : List α) {n i : Nat} (h : i < n) : (l.take n)[i]? = l[i]? := List.getElem?_take_of_lt h

/-- A row of the call's own grows within its block. -/
theorem Stp.tokRoom {G K ι st w} (h : Rel G K ι st w) (i n k : Nat) (e : TypeId) (hi : st[i]? = some (.tok n e k)) (b cap : Nat) (arr : Array Value)
    (hh : ι i = .slice (some ⟨b, 0, none⟩) n cap) (hw : w.heap[b]? = some (.cells arr e (0, 0))) (m : Nat) (news : List Value) (hl : news.length = m * k) (hroom : n + m ≤ cap) :
    Stp G K ι st w (addK K b (arr.toList.take (n * k) ++ news)) (ins ι i (.slice (some ⟨b, 0, none⟩) (n + m) cap)) (st.set i (.tok (n + m) e k))
      (w.setRow b (arr.toList.take (n * k) ++ news ++ arr.toList.drop (n * k + news.length)).toArray) := by
  obtain ⟨b', cap', arr', hh', hw', h1, h2, h3, h4, h5⟩ := h.obj i _ hi
  rw [hh] at hh'
  injection hh' with q1 _ q2
  injection q1 with q1
  injection q1 with q1
  subst q1 q2
  rw [hw] at hw'
  injection hw' with hw'
  injection hw' with hw'
  subst hw'
  have hfit : n * k + news.length ≤ arr.size := by
    rw [hl, h1, ← Nat.add_mul]
    exact Nat.mul_le_mul_right k hroom
  have hxl : (arr.toList.take (n * k) ++ news).length = (n + m) * k := by
    rw [List.length_append, List.length_take, Array.length_toList, hl, Nat.add_mul]
    omega
  have hget : ∀ j, j < (n + m) * k → (arr.toList.take (n * k) ++ news ++ arr.toList.drop (n * k + news.length)).toArray[j]? = (arr.toList.take (n * k) ++ news)[j]? := by
    intro j hj
    rw [List.getElem?_toArray, List.getElem?_append_left (by rw [hxl]; exact hj)]
  have hold : ∀ a v, K a = some v → a.block = b → a.spot = none ∧ a.off < n * k ∧ arr[a.off]? = some v := by
    intro a v q hab
    obtain ⟨ab, ao, as⟩ := a
    simp only at hab
    subst hab
    have hcell := h.know _ _ q
    cases as with
    | some s => simp [World.cell?, hw] at hcell
    | none =>
      simp [World.cell?, hw] at hcell
      refine ⟨rfl, ?_, hcell⟩
      refine Nat.lt_of_not_le fun hle => ?_
      rw [h5 ao hle] at q
      cases q
  refine Stp.setOb h i _ _ hi _ ?_ _ (fun a v q => ?_) _ b b (by rw [hh]; rfl) rfl (.inl rfl) rfl rfl rfl (by simp) (fun j _ hj => heap_setRow_other w b j _ hj) (fun a v q => ?_) (fun a v q => ?_) (fun x => ?_)
  · rw [hh]; simp [Ob.le]
  · by_cases hab : a.block = b
    · obtain ⟨a1, a2, a3⟩ := hold a v q hab
      obtain ⟨ab, ao, as⟩ := a
      simp only at hab a1 a2 a3
      subst hab a1
      have hlt : ao < (n + m) * k := Nat.lt_of_lt_of_le a2 (Nat.mul_le_mul_right k (by omega))
      rw [addK_at _ _ _ _ (by rw [hxl]; exact hlt), List.getElem?_append_left (by rw [List.length_take, Array.length_toList]; omega), take_getElem? _ a2]
      simpa using a3
    · rw [addK_other _ _ _ _ hab]; exact q
  · by_cases hab : a.block = b
    · obtain ⟨ab, ao, as⟩ := a
      simp only at hab
      subst hab
      by_cases hc : as = none ∧ ao < (arr.toList.take (n * k) ++ news).length
      · obtain ⟨rfl, hlt⟩ := hc
        rw [addK_at _ _ _ _ hlt] at q
        simp only [World.cell?, heap_setRow_same w ab arr _ e hw, Option.isSome_none, Bool.false_eq_true, if_false]
        rw [hget ao (by rw [← hxl]; exact hlt)]
        exact q
      · rw [addK, if_neg (by simpa using hc)] at q
        obtain ⟨a1, a2, _⟩ := hold _ v q rfl
        exact absurd ⟨a1, by rw [hxl]; exact Nat.lt_of_lt_of_le a2 (Nat.mul_le_mul_right k (by omega))⟩ hc
    · rw [addK_other _ _ _ _ hab] at q
      rw [cell_setRow_other w b _ a hab]
      exact h.know a v q
  · by_cases hab : a.block = b
    · exact .inr hab
    · rw [addK_other _ _ _ _ hab] at q; exact .inl q
  · refine ⟨b, cap, _, rfl, heap_setRow_same w b arr _ e hw, ?_, hroom, h3, h4, fun j hj => ?_⟩
    · simp only [List.size_toArray, List.length_append, List.length_take, List.length_drop, Array.length_toList]; omega
    · rw [addK_past _ _ _ _ (by rw [hxl]; exact hj)]
      exact h5 j (Nat.le_trans (Nat.mul_le_mul_right k (by omega)) hj)

/-- A row of the call's own moves to a greater block. -/
theorem Stp.tokGrow {G K ι st w} (h : Rel G K ι st w) (i n k : Nat) (e : TypeId) (hi : st[i]? = some (.tok n e k)) (m : Nat) (hm0 : 0 < m) (cap : Nat) (arr : Array Value) (xs : List Value)
    (hsz : arr.size = cap * k) (hn : n + m ≤ cap) (hm : cap ≤ maxLen) (hl : xs.length = (n + m) * k) (hx : ∀ j, j < xs.length → arr[j]? = xs[j]?) :
    Stp G K ι st w (addK K w.heap.size xs) (ins ι i (.slice (some ⟨w.heap.size, 0, none⟩) (n + m) cap)) (st.set i (.tok (n + m) e k)) (w.alloc (.cells arr e)) := by
  obtain ⟨b, cap', arr', hh, hw, h1, h2, h3, h4, h5⟩ := h.obj i _ hi
  have hne : ∀ a v, K a = some v → a.block ≠ w.heap.size := fun a v q => by have := h.know_lt q; omega
  refine Stp.setOb h i _ _ hi _ ?_ _ (fun a v q => by rw [addK_other _ _ _ _ (hne a v q)]; exact q) _ b w.heap.size (by rw [hh]; rfl) rfl (.inr (Nat.le_refl _)) rfl rfl rfl (by simp)
    (fun j hj _ => heap_alloc_old w _ j hj) (fun a v q => ?_) (fun a v q => ?_) (fun x => ?_)
  · rw [hh]; simp [Ob.le]; omega
  · by_cases hc : a.block = w.heap.size ∧ a.spot = none ∧ a.off < xs.length
    · obtain ⟨ab, ao, as⟩ := a
      obtain ⟨rfl, rfl, hlt⟩ := hc
      simp only at hlt
      rw [addK_at _ _ _ _ hlt] at q
      rw [World.cell?_alloc_new, hx _ hlt]; exact q
    · rw [addK, if_neg hc] at q
      rw [World.cell?_alloc_lt w _ a (h.know_lt q)]
      exact h.know a v q
  · by_cases hab : a.block = w.heap.size
    · exact .inr hab
    · rw [addK_other _ _ _ _ hab] at q; exact .inl q
  · refine ⟨w.heap.size, cap, arr, rfl, heap_alloc_new w _, hsz, hn, hm, h4, fun j hj => ?_⟩
    rw [addK_past _ _ _ _ (by rw [hl]; exact hj)]
    cases q : K ⟨w.heap.size, j, none⟩ with
    | none => rfl
    | some v => exact absurd rfl (hne _ v q)

end Go.Pv
end
section
namespace Go.Pv

inductive TK where
  | int (k : IntKind) | bool | str | slice (e : TypeId) | strct (fs : List (Nat × TypeId)) | array (n : Nat) (e : TypeId)
  | ptr (e : TypeId) | map (k v : TypeId) | fn | iface | other
structure TI where
  kind : TK
  size : Nat
  zero : List PV

/-- What the machine is told: the program, its types, its variables' values, which functions are met by their plain contract. -/
structure Env where
  P : Program
  T : TypeId → Option TI
  G : Nat → PV
  pl : FuncId → Bool
  eqt : TypeId → Bool
  xr : Nat → Bool := fun _ => false
  hm : TypeId → Bool := fun _ => false

def TI.agg (ti : TI) : Bool := match ti.kind with | .strct _ | .array _ _ => true | _ => false

/-- The greatest length that a slice may grow to. -/
def LIM : Nat := 4294967296

def cellsOf : PV → List PV | .agg cs => cs | p => [p]
def scal : PV → Bool | .agg _ | .tup _ | .bad => false | _ => true
def isAgg : PV → Bool | .agg _ => true | _ => false
def tokRo : PV → PV | .sl k es (.own _) => .sl k es .ro | p => p
/-- May it lie in shared memory (and so: has it no references)? -/
def cellOk : PV → Bool
  | .int _ _ | .bool _ | .str _ | .sl _ _ .ro | .sl _ _ .full | .nilp | .nilmap | .nilfn | .nilif | .fn _ [] => true
  | _ => false
def share (cs : List PV) : Option (List PV) := if (cs.map tokRo).all cellOk then some (cs.map tokRo) else none
/-- A value without references to the store. -/
def strip1 : PV → Option PV
  | .agg cs => (share cs).map .agg
  | .rptr cs => some (.rptr cs)
  | p => if cellOk (tokRo p) then some (tokRo p) else none
def strips : List PV → Option (List PV)
  | [] => some []
  | p :: ps => match strip1 p, strips ps with | some q, some qs => some (q :: qs) | _, _ => none

def ofConst : Value → PV
  | .bool b => .bool b
  | .int k n => .int k n
  | .string s => .str s.data.toList
  | .slice none 0 0 => .sl 0 [] .full
  | .pointer none => .nilp
  | .map none => .nilmap
  | .nilFunc => .nilfn
  | .nilIface => .nilif
  | _ => .bad
def evalO (E : Env) (fr : Fr) : Operand → PV
  | .tmp t => fr t
  | .const v => ofConst v
  | .global g => E.G g
  | .func f => .fn f []
/-- Likewise, where the type is known: of a nil slice it tells the elements' size. -/
def evalT (E : Env) (t : TypeId) (fr : Fr) : Operand → PV
  | .const (.slice none 0 0) => match E.T t with
    | some ⟨.slice e, _, _⟩ => (match E.T e with | some te => .sl te.size [] .full | none => .sl 0 [] .full)
    | _ => .sl 0 [] .full
  | x => evalO E fr x

def idxN : PV → Option Nat | .int _ n => if 0 ≤ n then some n.toNat else none | _ => none

def intF (op : BinOp) (k : IntKind) (a b : Int) : Option PV :=
  match op with
  | .add => some (.int k (k.wrap (a + b)))
  | .sub => some (.int k (k.wrap (a - b)))
  | .mul => some (.int k (k.wrap (a * b)))
  | .quo => if b = 0 then none else some (.int k (k.wrap (a.tdiv b)))
  | .rem => if b = 0 then none else some (.int k (a.tmod b))
  | .and => some (.int k (k.wrap (BitVec.ofInt k.bits a &&& BitVec.ofInt k.bits b).toNat))
  | .or => some (.int k (k.wrap (BitVec.ofInt k.bits a ||| BitVec.ofInt k.bits b).toNat))
  | .xor => some (.int k (k.wrap (BitVec.ofInt k.bits a ^^^ BitVec.ofInt k.bits b).toNat))
  | .eql => some (.bool (a == b))
  | .neq => some (.bool (a != b))
  | .lss => some (.bool (decide (a < b)))
  | .leq => some (.bool (decide (a ≤ b)))
  | .gtr => some (.bool (decide (a > b)))
  | .geq => some (.bool (decide (a ≥ b)))
  | _ => none
def shiftF (op : BinOp) (k : IntKind) (a b : Int) : Option PV :=
  if b < 0 then none else
  match op with
  | .shl => some (.int k (k.wrap (a * 2 ^ (min b.toNat k.bits))))
  | .shr => some (.int k (a.fdiv (2 ^ (min b.toNat k.bits))))
  | _ => none
def strF (op : BinOp) (a b : List UInt8) : Option PV :=
  match op with
  | .add => if a.length + b.length ≤ LIM then some (.str (a ++ b)) else none
  | .eql => some (.bool (a == b))
  | .neq => some (.bool (!(a == b)))
  | .lss => some (.bool (Op.bytesLess a b))
  | .leq => some (.bool (Op.bytesLess a b || a == b))
  | .gtr => some (.bool (!(Op.bytesLess a b || a == b)))
  | .geq => some (.bool (!Op.bytesLess a b))
  | _ => none
/-- Cells, compared. -/
def cellEq : PV → PV → Option Bool
  | .int k a, .int k' b => if k = k' then some (a == b) else none
  | .bool a, .bool b => some (a == b)
  | .str a, .str b => some (a == b)
  | _, _ => none
def cellsEq : List PV → List PV → Option Bool
  | [], [] => some true
  | p :: ps, q :: qs => match cellEq p q, cellsEq ps qs with | some a, some b => some (a && b) | _, _ => none
  | _, _ => none
/-- Is a cell of a type that is compared cell by cell? -/
def cellFit (E : Env) (t : TypeId) (p : PV) : Bool :=
  match E.T t, p with
  | some ⟨.int k, _, _⟩, .int k' _ => decide (k = k')
  | some ⟨.bool, _, _⟩, .bool _ => true
  | some ⟨.str, _, _⟩, .str _ => true
  | _, _ => false
def fitAll (E : Env) : List TypeId → List PV → Bool
  | [], [] => true
  | t :: ts, p :: ps => cellFit E t p && fitAll E ts ps
  | _, _ => false
def flatTys (E : Env) (t : TypeId) : Option (List TypeId) :=
  match E.T t with
  | some ⟨.strct fs, _, _⟩ => if fs.map (·.1) = List.range' 0 fs.length then some (fs.map (·.2)) else none
  | some ⟨.array n e, _, _⟩ => (match E.T e with
    | some te => if te.size = 1 then some (List.replicate n e) else none
    | none => none)
  | _ => none
/-- Two values of a structure's or an array's type, whose parts are single cells. -/
def aggEq (E : Env) (t : TypeId) (a b : List PV) : Option Bool :=
  match flatTys E t with
  | some ts => if fitAll E ts a && fitAll E ts b then cellsEq a b else none
  | none => none
def eqF (E : Env) (t : TypeId) (x y : PV) : Option Bool :=
  match x, y with
  | .bool a, .bool b => (match E.T t with | some ⟨.bool, _, _⟩ => some (a == b) | _ => none)
  | .agg a, .agg b => if E.eqt t then aggEq E t a b else none
  | .nilp, .nilp => (match E.T t with | some ⟨.ptr _, _, _⟩ => some true | _ => none)
  | .optr _ _ _, .nilp | .nilp, .optr _ _ _ => (match E.T t with | some ⟨.ptr _, _, _⟩ => some false | _ => none)
  | _, _ => none
def binF (E : Env) (op : BinOp) (t : TypeId) (x y : PV) : Option PV :=
  match x, y with
  | .int k a, .int k' b =>
    (match op with
    | .shl | .shr => shiftF op k a b
    | _ => if k = k' then intF op k a b else none)
  | .str a, .str b => strF op a b
  | x, y =>
    (match op with
    | .eql => (eqF E t x y).map fun b => .bool b
    | .neq => (eqF E t x y).map fun b => .bool (!b)
    | _ => none)
def unF (op : UnOp) (x : PV) : Option PV :=
  match op, x with
  | .not, .bool b => some (.bool !b)
  | .neg, .int k n => some (.int k (k.wrap (0 - n)))
  | _, _ => none
/-- The bytes of a shared slice of bytes. -/
def byteEs : List (List PV) → Option (List UInt8)
  | [] => some []
  | [.int .u8 n] :: es => (byteEs es).map fun r => UInt8.ofNat n.toNat :: r
  | _ => none
def convF (E : Env) (src dst : TypeId) (x : PV) : Option PV :=
  match E.T src, E.T dst, x with
  | some _, some ⟨.int k, _, _⟩, .int _ n => some (.int k (k.wrap n))
  | some ⟨.str, _, _⟩, some ⟨.str, _, _⟩, .str s => some (.str s)
  | some ⟨.slice e, _, _⟩, some ⟨.str, _, _⟩, .sl _ es _ =>
    (match E.T e with
    | some ⟨.int .u8, _, _⟩ => (byteEs es).map .str
    | _ => none)
  | _, _, _ => none

/-- A part of a list of cells as a value. -/
def partF (te : TI) (cs : List PV) (off : Nat) : Option PV :=
  if te.agg then (if off + te.size ≤ cs.length then some (.agg ((cs.drop off).take te.size)) else none) else cs[off]?
def fillF (place : Nat → Option (Nat × Nat)) : List (Nat × PV) → List PV → Option (List PV)
  | [], cs => some cs
  | (i, p) :: rest, cs => match place i with
    | none => none
    | some (off, size) => if scal p || isAgg p then
        (if (cellsOf p).length = size ∧ off + size ≤ cs.length then fillF place rest (splice cs off (cellsOf p)) else none)
      else none

def sliceF (len : Nat) (lo hi mx : Option PV) : Option (Nat × Nat × Bool) :=
  match (match hi with | none => some len | some p => idxN p), (match lo with | none => some 0 | some p => idxN p) with
  | some h, some l =>
    if l ≤ h ∧ h ≤ len then
      (match mx with
      | none => some (l, h, false)
      | some p => match idxN p with
        | some m => if h ≤ m ∧ m ≤ len ∧ hi.isSome then some (l, h, decide (m = h)) else none
        | none => none)
    else none
  | _, _ => none

def keyEq : PV → PV → Option Bool
  | .int k a, .int k' b => if k = k' then some (a == b) else none
  | .str a, .str b => some (a == b)
  | .agg a, .agg b => cellsEq a b
  | _, _ => none
def findF (key : PV) : List (PV × PV) → Nat → Option (Option (Nat × PV))
  | [], _ => some none
  | (k, v) :: es, i => match keyEq key k with
    | some true => some (some (i, v))
    | some false => findF key es (i + 1)
    | none => none
def keyK (E : Env) (t : TypeId) (ti : TI) (p : PV) : Bool := match ti.kind, p with
  | .int _, .int _ _ => true
  | .str, .str _ => true
  | .strct _, .agg cs => E.eqt t && (match flatTys E t with | some ts => fitAll E ts cs | none => false)
  | _, _ => false

def mapEs (st : Store) : PV → Option (List (PV × PV))
  | .nilmap => some []
  | .map id => (match st[id]? with | some (.map es) => some es | _ => none)
  | _ => none

/-- append, in shared mode. -/
def appendF (E : Env) (st : Store) (e : TypeId) (s : PV) (es2 : List (List PV)) (k2 : Nat) : Option (PV × Store) :=
  match E.T e with
  | none => none
  | some te =>
    match s with
    | .sl k es tok =>
      if es.length + es2.length ≤ LIM ∧ 0 < te.size ∧ (k = te.size ∨ es = []) ∧ (k2 = te.size ∨ es2 = []) then
        (if es2 = [] then some (.sl k es tok, st) else
         match tok with
         | .ro => none
         | .full => some (.sl te.size (es ++ es2) (.own st.length), st ++ [.tok (es.length + es2.length) e te.size])
         | .own i => match st[i]? with
           | some (.tok n e' k') => if n = es.length ∧ e' = e ∧ k' = te.size ∧ k = te.size then some (.sl te.size (es ++ es2) (.own i), st.set i (.tok (es.length + es2.length) e te.size)) else none
           | _ => none)
      else none
    | _ => none

/-- append into cells that may be written: of a nil slice, or of a slice that holds all of its object. -/
def appendH (E : Env) (st : Store) (e : TypeId) (s : PV) (es2 : List (List PV)) (k2 : Nat) : Option (PV × Store) :=
  match E.T e with
  | none => none
  | some te =>
    if 0 < te.size ∧ k2 = te.size ∧ es2 ≠ [] then
      (match s with
      | .sl _ [] .full => if es2.length ≤ LIM then some (.osl st.length es2.flatten.length 0 es2.length te.size, st ++ [.cells es2.flatten]) else none
      | .osl id tot off len k => (match st[id]? with
        | some (.cells cs) => if tot = cs.length ∧ off = 0 ∧ len * k = tot ∧ 0 < len ∧ k = te.size ∧ len + es2.length ≤ LIM then
            some (.osl id (tot + es2.flatten.length) 0 (len + es2.length) k, st.set id (.cells (cs ++ es2.flatten))) else none
        | _ => none)
      | _ => none)
    else none

def valOf (ti : TI) (cs : List PV) : PV := if ti.agg then .agg cs else cs.headD .bad

def callB (E : Env) (st : Store) (b : Builtin) (ts : List TypeId) (xs : List PV) : Option (PV × Store) :=
  match b, ts, xs with
  | .len, [t], [x] =>
    (match E.T t with
    | none => none
    | some ti =>
    match ti.kind, x with
    | .slice _, .sl _ es _ => some (.int .i64 es.length, st)
    | .slice _, .osl _ _ _ n _ => some (.int .i64 n, st)
    | .str, .str s => some (.int .i64 s.length, st)
    | .map _ _, .nilmap => some (.int .i64 0, st)
    | .map _ _, .map id => (match st[id]? with | some (.map es) => some (.int .i64 es.length, st) | _ => none)
    | _, _ => none)
  | .max, _, [.int k x, .int k' y] => if k = k' then some (.int k (if y > x then y else x), st) else none
  | .min, _, [.int k x, .int k' y] => if k = k' then some (.int k (if y < x then y else x), st) else none
  | .max, _, [.int k x, .int k' y, .int k'' z] => if k = k' ∧ k = k'' then some (.int k (if z > (if y > x then y else x) then z else (if y > x then y else x)), st) else none
  | .min, _, [.int k x, .int k' y, .int k'' z] => if k = k' ∧ k = k'' then some (.int k (if z < (if y < x then y else x) then z else (if y < x then y else x)), st) else none
  | .append, [t, tx], [s, x] =>
    (match E.T t with
    | some ⟨.slice e, _, _⟩ =>
      (match E.T tx, x with
      | some ⟨.slice _, _, _⟩, .sl k2 es2 _ => if E.hm e then appendH E st e s es2 k2 else appendF E st e s es2 k2
      | some ⟨.str, _, _⟩, .str b => appendF E st e s (b.map fun c => [.int .u8 c.toNat]) 1
      | _, _ => none)
    | _ => none)
  | _, _, _ => none

/-- Every operation but calls of functions, ranges over maps and strings. -/
def opF (E : Env) (ty : TypeId) (fr : Fr) (st : Store) : Op → Option (PV × Store)
  | .move x | .assign x => some (evalT E ty fr x, st)
  | .pick c a b =>
    (match evalO E fr c, evalO E fr a, evalO E fr b with
    | .bool t, .bool x, .bool y => some (.bool (if t then x else y), st)
    | .bool t, x, y => some (if t then x else y, st)
    | _, _, _ => none)
  | .alloc e => (match E.T e with | some te => some (.optr st.length te.size 0, st ++ [.cells te.zero]) | none => none)
  | .box e x => (match E.T e with
    | some te => let p := evalT E e fr x
      if (scal p || isAgg p) = true ∧ (cellsOf p).length = te.size then some (.optr st.length te.size 0, st ++ [.cells (cellsOf p)]) else none
    | none => none)
  | .build t parts => (match E.T t with
    | some ⟨.strct fs, _, z⟩ => if !(fs.all fun f => (E.T f.2).isSome) then none else (fillF (fun i => (fs[i]?).bind fun f => (E.T f.2).map fun tf => (f.1, tf.size)) (parts.toList.map fun q => (q.1, evalO E fr q.2)) z).map fun cs => (.agg cs, st)
    | some ⟨.array _ e, _, z⟩ => (match E.T e with
      | some te => (fillF (fun i => some (i * te.size, te.size)) (parts.toList.map fun q => (q.1, evalO E fr q.2)) z).map fun cs => (.agg cs, st)
      | none => none)
    | _ => none)
  | .buildSlice t len parts => (match E.T t with
    | some ⟨.slice e, _, _⟩ => (match E.T e with
      | some te =>
        if parts.toList.map (·.1) = List.range len ∧ len ≤ 4096 ∧ te.size ≤ 256 ∧ 0 < te.size ∧ (parts.toList.all fun q => (scal (evalT E e fr q.2) || isAgg (evalT E e fr q.2)) && (cellsOf (evalT E e fr q.2)).length == te.size) then
          (let rows := parts.toList.map fun q => (cellsOf (evalT E e fr q.2)).map tokRo
           if rows.all (·.all cellOk) then some (.sl te.size rows .full, st) else none)
        else none
      | none => none)
    | _ => none)
  | .load t a => (match E.T t, evalO E fr a with
    | some te, .rptr cs => (partF te cs 0).map fun v => (v, st)
    | some te, .optr id tot off => (match st[id]? with
      | some (.cells cs) => if tot = cs.length then (partF te cs off).map fun v => (v, st) else none
      | _ => none)
    | _, _ => none)
  | .store t a x => (match E.T t, evalO E fr a with
    | some te, .optr id tot off => (match st[id]? with
      | some (.cells cs) => let p := evalT E t fr x
        if tot = cs.length ∧ off + te.size ≤ tot ∧ (cellsOf p).length = te.size ∧ (scal p || isAgg p) = true then some (.tup [], st.set id (.cells (splice cs off (cellsOf p)))) else none
      | _ => none)
    | _, _ => none)
  | .nilCheck x => (match evalO E fr x with
    | .optr id tot off => some (.optr id tot off, st)
    | .rptr cs => some (.rptr cs, st)
    | .fn f caps => some (.fn f caps, st)
    | .yld l => some (.yld l, st)
    | _ => none)
  | .binOp op t x y _ => (binF E op t (evalO E fr x) (evalO E fr y)).map fun v => (v, st)
  | .unOp op _ x => (unF op (evalO E fr x)).map fun v => (v, st)
  | .convert src dst x => (convF E src dst (evalO E fr x)).map fun v => (v, st)
  | .makeFunc (.func f) first caps => if first.isEmpty then some (.fn f (caps.toList.map (evalO E fr)), st) else none
  | .makeMap _ none => some (.map st.length, st ++ [.map []])
  | .makeSlice t l c => (match E.T t, evalO E fr l, evalO E fr c with
    | some ⟨.slice e, _, _⟩, .int .i64 n, .int .i64 m => (match E.T e with
      | some te => if 0 ≤ n ∧ n ≤ LIM ∧ m = n ∧ 0 < te.size then some (.osl st.length (n.toNat * te.size) 0 n.toNat te.size, st ++ [.cells ((List.replicate n.toNat te.zero).flatten)]) else none
      | none => none)
    | _, _, _ => none)
  | .slice t x lo hi mx => (match E.T t, evalO E fr x with
    | some ti, p => (match ti.kind, p with
      | .str, .str s => (match sliceF s.length (lo.map (evalO E fr)) (hi.map (evalO E fr)) none with
        | some (l, h, _) => if mx.isNone then some (.str ((s.take h).drop l), st) else none
        | none => none)
      | .slice e, .sl k es tok => (match E.T e, sliceF es.length (lo.map (evalO E fr)) (hi.map (evalO E fr)) (mx.map (evalO E fr)) with
        | some te, some (l, h, f) => if te.size ≠ k then none else some (.sl k ((es.take h).drop l) (if f then .full else match tok with | .full => if h = es.length ∧ mx.isNone then .full else .ro | _ => .ro), st)
        | _, _ => none)
      | .slice e, .osl id tot off len k => (match E.T e, sliceF len (lo.map (evalO E fr)) (hi.map (evalO E fr)) (mx.map (evalO E fr)) with
        | some te, some (l, h, _) => if te.size = k then some (.osl id tot (off + l * k) (h - l) k, st) else none
        | _, _ => none)
      | .array n e, .optr id tot off => (match E.T e, st[id]?, sliceF n (lo.map (evalO E fr)) (hi.map (evalO E fr)) (mx.map (evalO E fr)) with
        | some te, some (.cells cs), some (l, h, _) => if tot = cs.length ∧ off + n * te.size ≤ tot then some (.osl id tot (off + l * te.size) (h - l) te.size, st) else none
        | _, _, _ => none)
      | _, _ => none)
    | _, _ => none)
  | .fieldAddr s x f => (match E.T s with
    | some ⟨.strct fs, _, _⟩ => (match fs[f]? with
      | some (foff, ft) => (match E.T ft with
        | some tf => if tf.size = 0 then none else
          (match evalO E fr x with
          | .rptr cs => some (.rptr (cs.drop foff), st)
          | .optr id tot off => some (.optr id tot (off + foff), st)
          | _ => none)
        | none => none)
      | none => none)
    | _ => none)
  | .field t x f => (match E.T t with
    | some ⟨.strct fs, _, _⟩ => (match fs[f]?, evalO E fr x with
      | some (foff, ft), .agg cs => (match E.T ft with | some tf => (partF tf cs foff).map fun v => (v, st) | none => none)
      | _, _ => none)
    | _ => none)
  | .indexAddr t x i => (match E.T t, idxN (evalO E fr i) with
    | some ti, some j => (match ti.kind, evalO E fr x with
      | .slice e, .sl k es _ => (match E.T e, es[j]? with | some te, some c => if te.size = k then some (.rptr c, st) else none | _, _ => none)
      | .slice e, .osl id tot off len k => (match E.T e with | some te => if j < len ∧ te.size = k then some (.optr id tot (off + j * k), st) else none | none => none)
      | .array n e, .rptr cs => (match E.T e with | some te => if j < n then some (.rptr (cs.drop (j * te.size)), st) else none | none => none)
      | .array n e, .optr id tot off => (match E.T e with | some te => if j < n then some (.optr id tot (off + j * te.size), st) else none | none => none)
      | _, _ => none)
    | _, _ => none)
  | .index t x i => (match E.T t, idxN (evalO E fr i) with
    | some ti, some j => (match ti.kind, evalO E fr x with
      | .str, .str s => (match s[j]? with | some b => some (.int .u8 b.toNat, st) | none => none)
      | .array n e, .agg cs => (match E.T e with | some te => if j < n then (partF te cs (j * te.size)).map fun v => (v, st) else none | none => none)
      | _, _ => none)
    | _, _ => none)
  | .lookup t m k ok => (match E.T t with
    | some ⟨.map tk tv, _, _⟩ => (match E.T tk, E.T tv with
      | some ik, some iv =>
        if keyK E tk ik (evalO E fr k) then
          (match mapEs st (evalO E fr m) with
          | some es => (match findF (evalO E fr k) es 0 with
            | some (some (_, v)) => some (if ok then .tup [v, .bool true] else v, st)
            | some none => some (if ok then .tup [valOf iv iv.zero, .bool false] else valOf iv iv.zero, st)
            | none => none)
          | none => none)
        else none
      | _, _ => none)
    | _ => none)
  | .mapUpdate t m k x => (match E.T t with
    | some ⟨.map tk tv, _, _⟩ => (match E.T tk with
      | some ik =>
        if keyK E tk ik (evalO E fr k) then
          (match evalO E fr m with
          | .map id => (match st[id]? with
            | some (.map es) => (match findF (evalO E fr k) es 0 with
              | some (some (i, _)) => if isAgg (evalO E fr k) then none else some (.tup [], st.set id (.map (es.set i (evalO E fr k, evalT E tv fr x))))
              | some none => some (.tup [], st.set id (.map (es ++ [(evalO E fr k, evalT E tv fr x)])))
              | none => none)
            | _ => none)
          | _ => none)
        else none
      | none => none)
    | _ => none)
  | .range t x => (match E.T t with
    | some ⟨.map _ _, _, _⟩ => (match evalO E fr x with
      | .nilmap => some (.it st.length, st ++ [.iter none 0 []])
      | .map id => (match st[id]? with
        | some (.map es) => some (.it st.length, st ++ [.iter (some id) es.length []])
        | _ => none)
      | _ => none)
    | _ => none)
  | .entry x => (match evalO E fr x with
    | .it i => (match st[i]? with
      | some (.iter (some m) n seen) => (match st[m]? with
        | some (.map es) => if es.length = n then (match seen.getLast? with
          | some j => (match es[j]? with
            | some (k, v) => some (.tup [k, v], st)
            | none => none)
          | none => none) else none
        | _ => none)
      | _ => none)
    | _ => none)
  | .extract t i => (match evalO E fr t with | .tup vs => (vs[i]?).map fun v => (v, st) | _ => none)
  | .call { callee := .builtin b, args, argTypes } => if args.size = argTypes.size then callB E st b argTypes.toList ((args.toList.zip argTypes.toList).map fun q => evalT E q.2 fr q.1) else none
  | _ => none

end Go.Pv
end
section
namespace Go.Pv

theorem uncase {α : Type} {P : Program} {w : World} {x : Sem α} {r : Result α} (h : x.run P w = r) : x.run P w = r := h

def cellConst : PV → Value → Bool
  | .int k n, .int k' n' => decide (k = k') && n == n'
  | .bool b, .bool b' => b == b'
  | .str [], .string s => s.data.size == 0
  | .sl _ [] .full, .slice none 0 0 => true
  | .nilp, .pointer none => true
  | .nilmap, .map none => true
  | .nilfn, .nilFunc => true
  | .nilif, .nilIface => true
  | _, _ => false
theorem TRel.nilSl (K : Know) (k : Nat) (t : Tok) (ht : t = .ro ∨ t = .full) : TRel K (.sl k [] t) (.slice none 0 0) :=
  .sl k [] t none 0 0 0 (fun _ _ => .bool false) (by simp) (fun h => absurd rfl h) (by simp) (by simp) (fun _ _ => rfl) (Nat.le_refl _) (by simp) (fun _ => rfl) (by rcases ht with h | h <;> simp [h])
theorem cellConst_rel (K : Know) {p : PV} {v : Value} (h : cellConst p v = true) : TRel K p v ∧ v.oneCell' = true := by
  unfold cellConst at h
  split at h <;> simp_all
  · exact ⟨.int _ _, rfl⟩
  · exact ⟨.bool _, rfl⟩
  · exact ⟨.str [], rfl⟩
  · exact ⟨TRel.nilSl K _ _ (.inr rfl), rfl⟩
  · exact ⟨.nilp, rfl⟩
  · exact ⟨.nilmap, rfl⟩
  · exact ⟨.nilfn, rfl⟩
  · exact ⟨.nilif, rfl⟩

def kindOk : TypeDesc → TK → Bool
  | .int k, .int k' => decide (k = k')
  | .bool, .bool => true
  | .string, .str => true
  | .slice e, .slice e' => e == e'
  | .struct fs, .strct l => fs.toList.map (fun f => (f.offset, f.type)) == l
  | .array n e, .array n' e' => n == n' && (e == e' && decide (n ≤ LIM))
  | .pointer e, .ptr e' => e == e'
  | .map k v, .map k' v' => k == k' && v == v'
  | .func _ _ _, .fn => true
  | .interface _, .iface => true
  | _, _ => false
def zerosOk (ps : List PV) (z : Value) : Bool := z.cells.size == ps.length && (ps.zip z.cells.toList).all fun q => cellConst q.1 q.2
/-- A type is as it is told. -/
def TI.okB (P : Program) (t : TypeId) (ti : TI) : Bool :=
  match P.underlying t, P.info? t with
  | some d, some i => kindOk d ti.kind && (i.size == ti.size && (decide (i.bytes ≤ 4096) && ((match i.zero with | some z => zerosOk ti.zero z && ti.zero.length == ti.size && (ti.agg == (match z with | .agg _ => true | _ => false)) | none => false) && (ti.agg || ti.size == 1))))
  | _, _ => false

/-- May values of the type be compared cell by cell? -/
def eqOkB (P : Program) (t : TypeId) : Bool :=
  !P.stoodInHeld t && (!(P.eqGuardType P.depth t) && (match P.underlying t with | some (.struct fs) => fs.toList.all (fun f => f.name != "_") | some (.array _ _) => true | _ => false))
structure EnvOk (E : Env) : Prop where
  types : ∀ t ti, E.T t = some ti → ti.okB E.P t = true
  mixed : E.P.follows .mixedOrders = true
  eqs : ∀ t, E.eqt t = true → eqOkB E.P t = true

structure TyFacts (P : Program) (t : TypeId) (ti : TI) (d : TypeDesc) (i : TypeInfo) : Prop where
  hu : P.underlying t = some d
  hi : P.info? t = some i
  hk : kindOk d ti.kind = true
  hs : i.size = ti.size
  hb : i.bytes ≤ 4096
  hz : ∃ z, i.zero = some z ∧ z.cells.size = ti.size ∧ ti.zero.length = ti.size ∧ (∀ (K : Know) (j : Nat) (p : PV), ti.zero[j]? = some p → ∃ v, z.cells[j]? = some v ∧ TRel K p v ∧ v.oneCell' = true) ∧ (ti.agg = true → ∃ cs, z = .agg cs) ∧ (ti.agg = false → z.cells = #[z])
  h1 : ti.agg = false → ti.size = 1

theorem EnvOk.ty {E : Env} (h : EnvOk E) {t : TypeId} {ti : TI} (e : E.T t = some ti) : ∃ d i, TyFacts E.P t ti d i := by
  have hb := h.types t ti e
  unfold TI.okB at hb
  split at hb
  · rename_i d i hu hi
    simp only [Bool.and_eq_true, decide_eq_true_eq, beq_iff_eq] at hb
    obtain ⟨a1, a2, a3, a4, a5⟩ := hb
    refine ⟨d, i, hu, hi, a1, a2, a3, ?_, fun hag => ?_⟩
    · split at a4
      · rename_i z hz
        simp only [Bool.and_eq_true, beq_iff_eq] at a4
        obtain ⟨⟨b1, b2⟩, b3⟩ := a4
        unfold zerosOk at b1
        simp only [Bool.and_eq_true, beq_iff_eq, List.all_eq_true] at b1
        obtain ⟨c1, c2⟩ := b1
        refine ⟨z, hz, by omega, b2, fun K j p hp => ?_, fun ha => ?_, fun ha => ?_⟩
        · have hj : j < ti.zero.length := (List.getElem?_eq_some_iff.1 hp).1
          have hv : z.cells.toList[j]? = some (z.cells.toList[j]'(by simpa using (by omega : j < z.cells.size))) := List.getElem?_eq_getElem _
          have hm : (p, z.cells.toList[j]'(by simpa using (by omega : j < z.cells.size))) ∈ ti.zero.zip z.cells.toList :=
            List.mem_of_getElem? (i := j) (by rw [List.getElem?_zip_eq_some]; exact ⟨hp, hv⟩)
          have hr := cellConst_rel K (c2 _ hm)
          exact ⟨_, by simp, hr⟩
        · rw [ha] at b3
          clear c1 c2 hz a2 a5 hu
          revert b3
          cases z <;> simp
        · rw [ha] at b3
          clear c1 c2 hz a2 a5 hu
          revert b3
          cases z <;> simp [Value.cells]
      · cases a4
    · simpa [hag] using a5
  · cases hb

theorem TyFacts.sizeOf {P t ti d i} (h : TyFacts P t ti d i) (w : World) : (Go.sizeOf t).run P w = .ok ti.size w := by
  simp only [Go.sizeOf, typeInfo, Sem.run_bind, run_program, Result.andThen_ok, h.hi, Sem.run_pure, h.hs]
theorem TyFacts.underl {P t ti d i} (h : TyFacts P t ti d i) (w : World) : (Go.underlying t).run P w = .ok d w := by
  simp only [Go.underlying, Sem.run_bind, run_program, Result.andThen_ok, h.hu, Sem.run_pure]
theorem TyFacts.isAgg {P t ti d i} (h : TyFacts P t ti d i) (w : World) : (Go.isAgg t).run P w = .ok ti.agg w := by
  have hk := h.hk
  simp only [Go.isAgg, Sem.run_bind, h.underl w, Result.andThen_ok]
  unfold TI.agg
  unfold kindOk at hk
  split at hk <;> simp_all [Sem.run_pure]
theorem TyFacts.zeroV {P t ti d i} (h : TyFacts P t ti d i) {z : Value} (hz : i.zero = some z) (w : World) : (Go.zeroValue t).run P w = .ok z w := by
  simp only [Go.zeroValue, typeInfo, Sem.run_bind, run_program, Result.andThen_ok, h.hi, Sem.run_pure, hz]

/-- An operation gives this plain value, and this store. -/
def Gives (G : Nat → PV) (K : Know) (ι : Nat → Value) (st : Store) (w : World) (r : Result Value) (v : PV) (st' : Store) : Prop :=
  ∃ K' ι' w' rv, r = .ok rv w' ∧ Stp G K ι st w K' ι' st' w' ∧ VRel K' ι' st' v rv
theorem Gives.pure {G K ι st w} (h : Rel G K ι st w) {v : PV} {rv : Value} (hv : VRel K ι st v rv) : Gives G K ι st w (.ok rv w) v st := ⟨K, ι, w, rv, rfl, .refl h, hv⟩

section inv
variable {K : Know} {ι : Nat → Value} {st : Store} {v : Value}
theorem VRel.intV {k : IntKind} {n : Int} (h : VRel K ι st (.int k n) v) : v = .int k n := by cases h with | tree _ _ h => cases h; rfl
theorem VRel.boolV {b : Bool} (h : VRel K ι st (.bool b) v) : v = .bool b := by cases h with | tree _ _ h => cases h; rfl
theorem VRel.strV {s : List UInt8} (h : VRel K ι st (.str s) v) : v = .string (bytesV s) := by cases h with | tree _ _ h => cases h; rfl
theorem VRel.aggV {cs : List PV} (h : VRel K ι st (.agg cs) v) : ∃ vs, v = .agg vs ∧ cs.length = vs.size ∧ (∀ (i : Nat) (v : Value), vs[i]? = some v → v.oneCell' = true) ∧
    ∀ (i : Nat) (p : PV) (v : Value), cs[i]? = some p → vs[i]? = some v → VRel K ι st p v := by
  cases h with
  | tree _ _ h => cases h with | agg _ vs hl h1 h => exact ⟨vs, rfl, hl, h1, fun i p v a b => .tree _ _ (h i p v a b)⟩
  | agg _ vs hl h1 h => exact ⟨vs, rfl, hl, h1, h⟩
theorem VRel.tupV {cs : List PV} (h : VRel K ι st (.tup cs) v) : ∃ vs, v = .tuple vs ∧ cs.length = vs.size ∧
    ∀ (i : Nat) (p : PV) (v : Value), cs[i]? = some p → vs[i]? = some v → VRel K ι st p v := by
  cases h with
  | tree _ _ h => cases h with | tup _ vs hl h => exact ⟨vs, rfl, hl, fun i p v a b => .tree _ _ (h i p v a b)⟩
  | tup _ vs hl h => exact ⟨vs, rfl, hl, h⟩
theorem VRel.rptrV {cs : List PV} (h : VRel K ι st (.rptr cs) v) : ∃ (b off : Nat) (f : Nat → Value), v = .pointer (some ⟨b, off, none⟩) ∧ (∀ i : Nat, i < cs.length → K ⟨b, off + i, none⟩ = some (f i)) ∧
    (∀ i : Nat, (f i).oneCell' = true) ∧ ∀ (i : Nat) (p : PV), cs[i]? = some p → TRel K p (f i) := by
  cases h with
  | tree _ _ h => cases h with | rptr _ b off f hK h1 h => exact ⟨b, off, f, rfl, hK, h1, h⟩
/-- Every value but a struct, a tuple and what is not known is one cell. -/
theorem VRel.one {p : PV} (hs : scal p = true) (h : VRel K ι st p v) : v.oneCell' = true ∧ v.cells = #[v] := by
  cases h with
  | tree _ _ h => cases h <;> simp_all [scal, Value.oneCell', Value.cells]
  | _ => simp_all [scal, Value.oneCell', Value.cells]
end inv

theorem evalT_const (E : Env) (t : TypeId) (fr : Fr) (v : Value) : ∃ k, evalT E t fr (.const v) = .sl k [] .full ∧ v = .slice none 0 0 ∨ evalT E t fr (.const v) = ofConst v := by
  unfold evalT
  split
  · rename_i h
    injection h with h
    subst h
    split
    · split
      · exact ⟨_, .inl ⟨rfl, rfl⟩⟩
      · exact ⟨0, .inr rfl⟩
    · exact ⟨0, .inr rfl⟩
  · exact ⟨0, .inr rfl⟩
theorem ofConst_rel (K : Know) (v : Value) : TRel K (ofConst v) v := by
  unfold ofConst
  split
  · exact .bool _
  · exact .int _ _
  · rename_i s
    have : s = bytesV s.data.toList := by cases s; rfl
    exact this ▸ .str _
  · exact TRel.nilSl K _ _ (.inr rfl)
  · exact .nilp
  · exact .nilmap
  · exact .nilfn
  · exact .nilif
  · exact .bad _

/-- The frame's slots. -/
def FrRel (K : Know) (ι : Nat → Value) (st : Store) (fr : Fr) (tm : Array Value) : Prop := ∀ t v, tm[t]? = some v → VRel K ι st (fr t) v
theorem FrRel.mono {K ι st K' ι' st' fr tm} (x : Ext K ι st K' ι' st') (h : FrRel K ι st fr tm) : FrRel K' ι' st' fr tm := fun t v e => (h t v e).mono x

def opdIn (N : Nat) : Operand → Bool | .tmp t => decide (t < N) | _ => true
theorem evalO_rel {E : Env} {K ι st w fr} {a : Act} (h : Rel E.G K ι st w) (hf : FrRel K ι st fr a.tmps) (x : Operand) (hx : opdIn a.tmps.size x = true) : VRel K ι st (evalO E fr x) (a.eval x) := by
  cases x with
  | tmp t =>
    simp only [opdIn, decide_eq_true_eq] at hx
    have : a.tmps[t]? = some a.tmps[t] := Array.getElem?_eq_getElem hx
    simp only [evalO, Act.eval, Array.getD_eq_getD_getElem?, this, Option.getD_some]
    exact hf t _ this
  | const v => exact .tree _ _ (ofConst_rel K v)
  | global g => exact .tree _ _ (h.glob g)
  | func f => exact .tree _ _ (.fn f)
theorem evalT_rel {E : Env} {K ι st w fr} {a : Act} (h : Rel E.G K ι st w) (hf : FrRel K ι st fr a.tmps) (t : TypeId) (x : Operand) (hx : opdIn a.tmps.size x = true) : VRel K ι st (evalT E t fr x) (a.eval x) := by
  cases x with
  | const v =>
    obtain ⟨k, ⟨e, rfl⟩ | e⟩ := evalT_const E t fr v
    · rw [e]; exact .tree _ _ (TRel.nilSl K _ _ (.inr rfl))
    · rw [e]; exact .tree _ _ (ofConst_rel K v)
  | tmp t' => exact evalO_rel h hf (.tmp t') hx
  | global g => exact evalO_rel h hf (.global g) hx
  | func f => exact evalO_rel h hf (.func f) hx

/-! ### Numbers, strings, comparisons -/
/-- A plain number, bool or string as the model has it. -/
def toV : PV → Value | .int k n => .int k n | .bool b => .bool b | .str s => .string (bytesV s) | _ => .nilFunc
def flat0 : PV → Bool | .int _ _ | .bool _ | .str _ => true | _ => false
theorem toV_rel (K : Know) {p : PV} (h : flat0 p = true) : TRel K p (toV p) := by
  cases p <;> simp [flat0] at h
  · exact .int _ _
  · exact .bool _
  · exact .str _
theorem toList_bytesV (s : List UInt8) : (bytesV s).toList = s := by rw [ByteArray.toList_eq]; rfl

theorem intF_run {P : Program} {op : BinOp} {k : IntKind} {a b : Int} {p : PV} (h : intF op k a b = some p) (t : TypeId) (w : World) (hs : op ≠ .shl ∧ op ≠ .shr) :
    (binOp op t (.int k a) (.int k b)).run P w = .ok (toV p) w ∧ flat0 p = true := by
  unfold intF at h
  cases op <;> simp only [Option.some.injEq, reduceCtorEq] at h hs
  all_goals first
    | (subst h; exact ⟨by simp [binOp, Op.intArith, Op.intBits, Op.intCmp, Sem.run_pure, toV], rfl⟩)
    | (split at h
       · cases h
       · rename_i hb
         simp only [Option.some.injEq] at h
         subst h
         exact ⟨by simp [binOp, Op.intDiv, hb, Sem.run_pure, toV], rfl⟩)
    | (exact absurd rfl hs.1)
    | (exact absurd rfl hs.2)
theorem shiftF_run {P : Program} {op : BinOp} {k k' : IntKind} {a b : Int} {p : PV} (h : shiftF op k a b = some p) (t : TypeId) (w : World) :
    (binOp op t (.int k a) (.int k' b)).run P w = .ok (toV p) w ∧ flat0 p = true := by
  unfold shiftF at h
  split at h
  · cases h
  · rename_i hb
    cases op <;> simp only [Option.some.injEq, reduceCtorEq] at h
    all_goals (subst h; exact ⟨by simp [binOp, Op.shift, hb, Sem.run_pure, toV], rfl⟩)
theorem strF_run {P : Program} {op : BinOp} {a b : List UInt8} {p : PV} (h : strF op a b = some p) (t : TypeId) (w : World) :
    (binOp op t (.string (bytesV a)) (.string (bytesV b))).run P w = .ok (toV p) w ∧ flat0 p = true := by
  have hx : ∀ x : List UInt8, (bytesV x).size = x.length := fun x => by simp [bytesV, ByteArray.size]
  unfold strF at h
  cases op <;> simp only [Option.some.injEq, reduceCtorEq] at h
  case add =>
    split at h
    · rename_i hl
      simp only [Option.some.injEq] at h
      subst h
      refine ⟨?_, rfl⟩
      have hn : ¬ ((((bytesV a).size + (bytesV b).size : Nat) : Int) > IntKind.i64.max) := by
        rw [hx, hx]
        have : IntKind.i64.max = 9223372036854775807 := by decide
        rw [this]
        unfold LIM at hl
        omega
      have hc : bytesV a ++ bytesV b = bytesV (a ++ b) := by
        show ByteArray.append _ _ = _
        simp [bytesV, ByteArray.append]
      simp only [binOp, Op.stringOp, if_neg hn, Sem.run_pure, toV, hc]
    · cases h
  all_goals (subst h; exact ⟨by simp [binOp, Op.stringOp, Sem.run_pure, toV, toList_bytesV], rfl⟩)

theorem eqGuard_plain {P : Program} (op : BinOp) (t : TypeId) (x y : Operand) (a b : Value) (w : World) (ha : ∀ cs, a ≠ .agg cs) (hi : a ≠ .nilIface) : (eqGuard op t x y a b).run P w = .ok () w := by
  have hm : ∀ (c : Sem Unit) (p : Bool), (∀ w, c.run P w = .ok () w) → ((if p = true then (pure () : Sem Unit) else c)).run P w = .ok () w := by
    intro c p hc
    split
    · rfl
    · exact hc w
  refine hm _ _ (fun w => ?_)
  split
  · exact absurd rfl hi
  · exact absurd rfl (ha _)
  · rfl

theorem cellEq_flat {p q : PV} {r : Bool} (h : cellEq p q = some r) : flat0 p = true ∧ flat0 q = true := by
  unfold cellEq at h
  split at h <;> simp_all [flat0]
theorem cellsEq_flat : ∀ {a b : List PV} {r : Bool}, cellsEq a b = some r → (∀ p ∈ a, flat0 p = true) ∧ (∀ p ∈ b, flat0 p = true)
  | [], [], _, _ => ⟨by simp, by simp⟩
  | [], _ :: _, _, h => by simp [cellsEq] at h
  | _ :: _, [], _, h => by simp [cellsEq] at h
  | p :: ps, q :: qs, r, h => by
    simp only [cellsEq] at h
    split at h
    · rename_i x y hx hy
      obtain ⟨a1, a2⟩ := cellEq_flat hx
      obtain ⟨b1, b2⟩ := cellsEq_flat hy
      exact ⟨fun z hz => (List.mem_cons.1 hz).elim (fun e => e ▸ a1) (b1 z), fun z hz => (List.mem_cons.1 hz).elim (fun e => e ▸ a2) (b2 z)⟩
    · cases h
theorem VRel.flat {K ι st p v} (h : VRel K ι st p v) (hf : flat0 p = true) (K' : Know) : TRel K' p v := by
  cases p <;> simp [flat0] at hf
  · rw [h.intV]; exact .int _ _
  · rw [h.boolV]; exact .bool _
  · rw [h.strV]; exact .str _

theorem eq_ptr_nil {P : Program} (w : World) (d : Nat) (t e : TypeId) (p : Option Addr) (h : P.underlying t = some (.pointer e)) : (Op.equalIn (d + 1) t (.pointer p) (.pointer none)).run P w = .ok p.isNone w := by
  cases p <;> simp [Op.equalIn, run_underlying h]
theorem eq_nil_ptr {P : Program} (w : World) (d : Nat) (t e : TypeId) (p : Option Addr) (h : P.underlying t = some (.pointer e)) : (Op.equalIn (d + 1) t (.pointer none) (.pointer p)).run P w = .ok p.isNone w := by
  cases p <;> simp [Op.equalIn, run_underlying h]
theorem under_ptr {P : Program} {t e ti1 ti2 d i} (ty : TyFacts P t ⟨.ptr e, ti1, ti2⟩ d i) : P.underlying t = some (.pointer e) := by
  have hk := ty.hk
  rw [ty.hu]
  cases d <;> simp [kindOk] at hk
  rw [hk]

theorem fit_int {E : Env} {t : TypeId} {k : IntKind} {n : Int} (h : cellFit E t (.int k n) = true) : ∃ s z, E.T t = some ⟨.int k, s, z⟩ := by
  unfold cellFit at h
  split at h
  · rename_i hT e
    injection e with e1 e2
    subst e1 e2
    simp only [decide_eq_true_eq] at h
    subst h
    exact ⟨_, _, hT⟩
  · rename_i e; cases e
  · rename_i e; cases e
  · cases h
theorem fit_bool {E : Env} {t : TypeId} {x : Bool} (h : cellFit E t (.bool x) = true) : ∃ s z, E.T t = some ⟨.bool, s, z⟩ := by
  unfold cellFit at h
  split at h
  · rename_i e; cases e
  · rename_i hT _; exact ⟨_, _, hT⟩
  · rename_i e; cases e
  · cases h
theorem fit_str {E : Env} {t : TypeId} {x : List UInt8} (h : cellFit E t (.str x) = true) : ∃ s z, E.T t = some ⟨.str, s, z⟩ := by
  unfold cellFit at h
  split at h
  · rename_i e; cases e
  · rename_i e; cases e
  · rename_i hT _; exact ⟨_, _, hT⟩
  · cases h
theorem under_scal {E : Env} (hE : EnvOk E) {t : TypeId} {k : TK} {s z} (h : E.T t = some ⟨k, s, z⟩) :
    (∀ q, k = .int q → E.P.underlying t = some (.int q)) ∧ (k = .bool → E.P.underlying t = some .bool) ∧ (k = .str → E.P.underlying t = some .string) := by
  obtain ⟨d, i, ty⟩ := hE.ty h
  have hk := ty.hk
  have hu := ty.hu
  refine ⟨fun q e => ?_, fun e => ?_, fun e => ?_⟩
  · subst e; cases d <;> simp [kindOk] at hk; subst hk; exact hu
  · subst e; cases d <;> simp [kindOk] at hk; exact hu
  · subst e; cases d <;> simp [kindOk] at hk; exact hu
theorem fit_step {E : Env} (hE : EnvOk E) {t : TypeId} {p q : PV} (hp : cellFit E t p = true) (hq : cellFit E t q = true) {r : Bool} (h : cellEq p q = some r) {K ι st} {a b : Value} (ha : VRel K ι st p a) (hb : VRel K ι st q b) (d : Nat) (w : World) :
    (Op.equalIn (d + 1) t a b).run E.P w = .ok r w ∧ E.P.plainKey t = true := by
  unfold cellEq at h
  split at h
  · obtain ⟨s, z, hT⟩ := fit_int hp
    obtain ⟨s', z', hT'⟩ := fit_int hq
    rw [hT] at hT'
    injection hT' with hT'
    injection hT' with e _ _
    injection e with e
    subst e
    have hu := (under_scal hE hT).1 _ rfl
    rw [ha.intV, hb.intV]
    simp only [if_true, Option.some.injEq] at h
    subst h
    exact ⟨run_equalIn_int w d t _ _ _ _ hu, by simp [Program.plainKey, hu]⟩
  · obtain ⟨s, z, hT⟩ := fit_bool hp
    have hu := (under_scal hE hT).2.1 rfl
    rw [ha.boolV, hb.boolV]
    simp only [Option.some.injEq] at h
    subst h
    exact ⟨run_equalIn_bool w d t _ _ hu, by simp [Program.plainKey, hu]⟩
  · obtain ⟨s, z, hT⟩ := fit_str hp
    have hu := (under_scal hE hT).2.2 rfl
    rw [ha.strV, hb.strV]
    simp only [Option.some.injEq] at h
    subst h
    refine ⟨?_, by simp [Program.plainKey, hu]⟩
    rw [run_equalIn_string w d t _ _ hu, toList_bytesV, toList_bytesV]
  · cases h

theorem fields_run {E : Env} (hE : EnvOk E) {K ι st} {xs ys : Array Value} (d : Nat) (w : World) : ∀ (fs : List Field) (off : Nat) (a b : List PV) (r : Bool), (∀ f ∈ fs, (f.name != "_") = true) → fs.map (·.offset) = List.range' off fs.length →
    fitAll E (fs.map (·.type)) a = true → fitAll E (fs.map (·.type)) b = true → cellsEq a b = some r →
    (∀ (i : Nat) (p : PV), a[i]? = some p → ∃ v, xs[off + i]? = some v ∧ VRel K ι st p v) → (∀ (i : Nat) (p : PV), b[i]? = some p → ∃ v, ys[off + i]? = some v ∧ VRel K ι st p v) → (Op.eqFields (d + 1) xs ys fs).run E.P w = .ok r w
  | [], off, a, b, r, hn, ho, fa, fb, h, ra, rb => by
    cases a with
    | nil =>
      cases b with
      | nil => simp [cellsEq] at h; subst h; simp [Op.eqFields]
      | cons q qs => simp [fitAll] at fb
    | cons p ps => simp [fitAll] at fa
  | f :: fs, off, a, b, r, hn, ho, fa, fb, h, ra, rb => by
    cases a with
    | nil => simp [fitAll] at fa
    | cons p ps =>
      cases b with
      | nil => simp [fitAll] at fb
      | cons q qs =>
        simp only [List.map_cons, fitAll, Bool.and_eq_true] at fa fb
        simp only [List.map_cons, List.length_cons, List.range'_succ, List.cons.injEq] at ho
        simp only [cellsEq] at h
        split at h
        · rename_i x y hx hy
          injection h with h
          subst h
          obtain ⟨va, e1, r1⟩ := ra 0 p rfl
          obtain ⟨vb, e2, r2⟩ := rb 0 q rfl
          obtain ⟨g1, g2⟩ := fit_step hE fa.1 fb.1 hx r1 r2 d w
          rw [Nat.add_zero] at e1 e2
          have ih := fields_run hE (K := K) (ι := ι) (st := st) (xs := xs) (ys := ys) d w fs (off + 1) ps qs y (fun g hg => hn g (by simp [hg])) ho.2 fa.2 fb.2 hy
            (fun i p hp => by obtain ⟨v, e, r⟩ := ra (i + 1) p (by simpa using hp); exact ⟨v, by rw [← e]; congr 1; omega, r⟩)
            (fun i p hp => by obtain ⟨v, e, r⟩ := rb (i + 1) p (by simpa using hp); exact ⟨v, by rw [← e]; congr 1; omega, r⟩)
          have hname : f.name ≠ "_" := by simpa using hn f (by simp)
          simp only [Op.eqFields, hname, ne_eq, not_false_eq_true, if_true, Sem.run_bind, ho.1, run_part_plain w g2 e1, run_part_plain w g2 e2, g1, Result.andThen_ok]
          cases x
          · simp
          · simpa using ih
        · cases h
theorem items_run {E : Env} (hE : EnvOk E) {K ι st} {e : TypeId} {xs ys : Array Value} (d : Nat) (w : World) : ∀ (n off : Nat) (a b : List PV) (r : Bool),
    fitAll E (List.replicate n e) a = true → fitAll E (List.replicate n e) b = true → cellsEq a b = some r →
    (∀ (i : Nat) (p : PV), a[i]? = some p → ∃ v, xs[off + i]? = some v ∧ VRel K ι st p v) → (∀ (i : Nat) (p : PV), b[i]? = some p → ∃ v, ys[off + i]? = some v ∧ VRel K ι st p v) → (Op.eqItems (d + 1) e 1 xs ys (List.range' off n)).run E.P w = .ok r w
  | 0, off, a, b, r, fa, fb, h, ra, rb => by
    cases a with
    | nil =>
      cases b with
      | nil => simp [cellsEq] at h; subst h; simp [Op.eqItems]
      | cons q qs => simp [fitAll] at fb
    | cons p ps => simp [fitAll] at fa
  | n + 1, off, a, b, r, fa, fb, h, ra, rb => by
    cases a with
    | nil => simp [fitAll, List.replicate_succ] at fa
    | cons p ps =>
      cases b with
      | nil => simp [fitAll, List.replicate_succ] at fb
      | cons q qs =>
        simp only [List.replicate_succ, fitAll, Bool.and_eq_true] at fa fb
        simp only [cellsEq] at h
        split at h
        · rename_i x y hx hy
          injection h with h
          subst h
          obtain ⟨va, e1, r1⟩ := ra 0 p rfl
          obtain ⟨vb, e2, r2⟩ := rb 0 q rfl
          obtain ⟨g1, g2⟩ := fit_step hE fa.1 fb.1 hx r1 r2 d w
          rw [Nat.add_zero] at e1 e2
          have ih := items_run hE (K := K) (ι := ι) (st := st) (xs := xs) (ys := ys) d w n (off + 1) ps qs y fa.2 fb.2 hy
            (fun i p hp => by obtain ⟨v, e, r⟩ := ra (i + 1) p (by simpa using hp); exact ⟨v, by rw [← e]; congr 1; omega, r⟩)
            (fun i p hp => by obtain ⟨v, e, r⟩ := rb (i + 1) p (by simpa using hp); exact ⟨v, by rw [← e]; congr 1; omega, r⟩)
          rw [List.range'_succ]
          simp only [Op.eqItems, Sem.run_bind, Nat.mul_one, run_part_plain w g2 e1, run_part_plain w g2 e2, g1, Result.andThen_ok]
          cases x
          · simp
          · simpa using ih
        · cases h
theorem aggEq_run {E : Env} (hE : EnvOk E) {t : TypeId} (he : E.eqt t = true) {a b : List PV} {r : Bool} (h : aggEq E t a b = some r) {K ι st} {va vb : Array Value} (l1 : a.length = va.size) (l2 : b.length = vb.size)
    (r1 : ∀ (i : Nat) (p : PV) (v : Value), a[i]? = some p → va[i]? = some v → VRel K ι st p v) (r2 : ∀ (i : Nat) (p : PV) (v : Value), b[i]? = some p → vb[i]? = some v → VRel K ι st p v) (w : World) :
    (Op.equal t (.agg va) (.agg vb)).run E.P w = .ok r w ∧ E.P.eqGuardType E.P.depth t = false := by
  have hok := hE.eqs t he
  unfold eqOkB at hok
  simp only [Bool.and_eq_true, Bool.not_eq_true'] at hok
  obtain ⟨o1, o2, o3⟩ := hok
  have cell : ∀ (ps : List PV) (vs : Array Value), ps.length = vs.size → (∀ (i : Nat) (p : PV) (v : Value), ps[i]? = some p → vs[i]? = some v → VRel K ι st p v) → ∀ (i : Nat) (p : PV), ps[i]? = some p → ∃ v, vs[0 + i]? = some v ∧ VRel K ι st p v := by
    intro ps vs hl hr i p hp
    have hi := (List.getElem?_eq_some_iff.1 hp).1
    have e : vs[i]? = some (vs[i]'(by omega)) := Array.getElem?_eq_getElem _
    exact ⟨_, by rw [Nat.zero_add]; exact e, hr i p _ hp e⟩
  refine ⟨?_, o2⟩
  unfold aggEq flatTys at h
  split at h
  · rename_i ts hts
    split at h
    · rename_i hf
      simp only [Bool.and_eq_true] at hf
      split at hts
      · rename_i fs _ _ hT
        split at hts
        · rename_i hoff
          injection hts with hts
          subst hts
          obtain ⟨d, i, ty⟩ := hE.ty hT
          have hk := ty.hk
          have hu := ty.hu
          cases d <;> simp only [kindOk, Bool.false_eq_true] at hk
          rename_i fl
          have hk : fl.toList.map (fun f => (f.offset, f.type)) = fs := by simpa using hk
          rw [hu] at o3
          have hfs : E.P.fieldsOf t = fl := by simp [Program.fieldsOf, hu]
          have q := fields_run hE (K := K) (ι := ι) (st := st) (xs := va) (ys := vb) 9998 w fl.toList 0 a b r (fun f hf => by
              rw [List.all_eq_true] at o3; exact o3 f hf) (by rw [← hk] at hoff; simpa [List.map_map, Function.comp_def] using hoff)
            (by rw [← hk] at hf; simpa [List.map_map, Function.comp_def] using hf.1) (by rw [← hk] at hf; simpa [List.map_map, Function.comp_def] using hf.2) h (cell a va l1 r1) (cell b vb l2 r2)
          show (Op.equalIn (9999 + 1) t _ _).run E.P w = _
          rw [run_equalIn_struct w 9999 t va vb (by rw [hfs]; exact hu) o1, hfs]
          exact q
        · cases hts
      · rename_i n e _ _ hT
        split at hts
        · rename_i te hTe
          split at hts
          · rename_i hsz
            injection hts with hts
            subst hts
            obtain ⟨d, i, ty⟩ := hE.ty hT
            have hk := ty.hk
            have hu := ty.hu
            cases d <;> simp only [kindOk, Bool.false_eq_true] at hk
            rename_i n' e'
            simp only [Bool.and_eq_true, beq_iff_eq] at hk
            obtain ⟨rfl, rfl, _⟩ := hk
            obtain ⟨d2, i2, ty2⟩ := hE.ty hTe
            have hc : E.P.cellsOf e' = 1 := by
              unfold Program.cellsOf
              rw [ty2.hi]
              simpa [hsz] using ty2.hs
            have q := items_run hE (K := K) (ι := ι) (st := st) (e := e') (xs := va) (ys := vb) 9998 w n' 0 a b r hf.1 hf.2 h (cell a va l1 r1) (cell b vb l2 r2)
            show (Op.equalIn (9999 + 1) t _ _).run E.P w = _
            rw [run_equalIn_array w 9999 va vb hu ty2.hi, hc, List.range_eq_range']
            exact q
          · cases hts
        · cases hts
      · cases hts
    · cases h
  · cases h
theorem eqF_run {E : Env} (hE : EnvOk E) {t : TypeId} {x y : PV} {r : Bool} (h : eqF E t x y = some r) {K ι st} {a b : Value} (ha : VRel K ι st x a) (hb : VRel K ι st y b) (w : World) :
    (Op.equal t a b).run E.P w = .ok r w ∧ (∀ op ox oy, (eqGuard op t ox oy a b).run E.P w = .ok () w) ∧
    (binOp .eql t a b).run E.P w = .ok (.bool r) w ∧ (binOp .neq t a b).run E.P w = .ok (.bool (!r)) w := by
  suffices hs : (Op.equal t a b).run E.P w = .ok r w ∧ (∀ op ox oy, (eqGuard op t ox oy a b).run E.P w = .ok () w) ∧ binOp .eql t a b = (do pure (.bool (← Op.equal t a b))) ∧ binOp .neq t a b = (do pure (.bool (!(← Op.equal t a b)))) by
    obtain ⟨h1, h2, h3, h4⟩ := hs
    refine ⟨h1, h2, ?_, ?_⟩
    · rw [h3]; simp [h1]
    · rw [h4]; simp [h1]
  unfold eqF at h
  split at h
  · rename_i p q
    rw [ha.boolV, hb.boolV]
    split at h
    · rename_i ti hT
      obtain ⟨d, i, ty⟩ := hE.ty hT
      have hk := ty.hk
      injection h with h
      subst h
      have hu : E.P.underlying t = some .bool := by
        rw [ty.hu]
        cases d <;> simp_all [kindOk]
      refine ⟨run_equalIn_bool' w 9999 t p q hu, fun op ox oy => eqGuard_plain op t ox oy _ _ w (by simp) (by simp), rfl, rfl⟩
    · cases h
  · rename_i cs ds
    split at h
    · rename_i he
      obtain ⟨va, rfl, l1, o1, r1⟩ := ha.aggV
      obtain ⟨vb, rfl, l2, o2, r2⟩ := hb.aggV
      obtain ⟨e1, e2⟩ := aggEq_run hE he h l1 l2 r1 r2 w
      refine ⟨e1, fun op ox oy => run_eqGuard_agg w op t ox oy va vb e2, rfl, rfl⟩
    · cases h
  · have e1 : a = .pointer none := by cases ha with | tree _ _ h => cases h; rfl
    have e2 : b = .pointer none := by cases hb with | tree _ _ h => cases h; rfl
    subst e1 e2
    split at h
    · rename_i e ti1 ti2 hT
      obtain ⟨d, i, ty⟩ := hE.ty hT
      have hk := ty.hk
      injection h with h
      subst h
      refine ⟨?_, fun op ox oy => eqGuard_plain op t ox oy _ _ w (by simp) (by simp), rfl, rfl⟩
      · exact eq_ptr_nil w 9999 t e none (under_ptr ty)
    · cases h
  · obtain ⟨a', rfl⟩ : ∃ a', a = .pointer (some a') := by
      cases ha with
      | tree _ _ h => cases h
      | optr _ _ _ a cs => exact ⟨a, rfl⟩
    have e2 : b = .pointer none := by cases hb with | tree _ _ h => cases h; rfl
    subst e2
    split at h
    · rename_i e ti1 ti2 hT
      obtain ⟨d, i, ty⟩ := hE.ty hT
      have hk := ty.hk
      injection h with h
      subst h
      refine ⟨?_, fun op ox oy => eqGuard_plain op t ox oy _ _ w (by simp) (by simp), rfl, rfl⟩
      · exact eq_ptr_nil w 9999 t e (some a') (under_ptr ty)
    · cases h
  · obtain ⟨a', rfl⟩ : ∃ a', b = .pointer (some a') := by
      cases hb with
      | tree _ _ h => cases h
      | optr _ _ _ a cs => exact ⟨a, rfl⟩
    have e2 : a = .pointer none := by cases ha with | tree _ _ h => cases h; rfl
    subst e2
    split at h
    · rename_i e ti1 ti2 hT
      obtain ⟨d, i, ty⟩ := hE.ty hT
      have hk := ty.hk
      injection h with h
      subst h
      refine ⟨?_, fun op ox oy => eqGuard_plain op t ox oy _ _ w (by simp) (by simp), rfl, rfl⟩
      · exact eq_nil_ptr w 9999 t e (some a') (under_ptr ty)
    · cases h
  · cases h

theorem binF_run {E : Env} (hE : EnvOk E) {op : BinOp} {t : TypeId} {x y p : PV} (h : binF E op t x y = some p) {K ι st} {a b : Value} (ha : VRel K ι st x a) (hb : VRel K ι st y b) (w : World) (ox oy : Operand) :
    (do eqGuard op t ox oy a b; binOp op t a b : Sem Value).run E.P w = .ok (toV p) w ∧ flat0 p = true := by
  unfold binF at h
  split at h
  · rw [ha.intV, hb.intV]
    rw [Sem.run_bind, eqGuard_plain op t ox oy _ _ w (by simp) (by simp), Result.andThen_ok]
    split at h
    · exact shiftF_run h t w
    · exact shiftF_run h t w
    · rename_i n1 n2
      split at h
      · rename_i hk
        subst hk
        exact intF_run h t w ⟨n1, n2⟩
      · cases h
  · rw [ha.strV, hb.strV]
    rw [Sem.run_bind, eqGuard_plain op t ox oy _ _ w (by simp) (by simp), Result.andThen_ok]
    exact strF_run h t w
  · split at h
    · obtain ⟨r, hr, rfl⟩ := Option.map_eq_some_iff.1 h
      obtain ⟨e1, e2, e3⟩ := eqF_run hE hr ha hb w
      refine ⟨?_, rfl⟩
      rw [Sem.run_bind, e2, Result.andThen_ok, e3.1]
      rfl
    · obtain ⟨r, hr, rfl⟩ := Option.map_eq_some_iff.1 h
      obtain ⟨e1, e2, e3⟩ := eqF_run hE hr ha hb w
      refine ⟨?_, rfl⟩
      rw [Sem.run_bind, e2, Result.andThen_ok, e3.2]
      rfl
    · cases h

theorem unF_run {P : Program} {op : UnOp} {x p : PV} (h : unF op x = some p) {K ι st} {a : Value} (ha : VRel K ι st x a) (w : World) : (Op.unary op a).run P w = .ok (toV p) w ∧ flat0 p = true := by
  unfold unF at h
  split at h
  · rw [ha.boolV]; injection h with h; subst h; exact ⟨by simp [Op.unary, Sem.run_pure, toV], rfl⟩
  · rw [ha.intV]; injection h with h; subst h; exact ⟨by simp [Op.unary, Op.intArith, Sem.run_pure, toV], rfl⟩
  · cases h

end Go.Pv
end
section
namespace Go.Pv

section
variable {P : Program} {t : TypeId} {ti : TI} {d : TypeDesc} {i : TypeInfo}

theorem TyFacts.row (h : TyFacts P t ti d i) : d.isRow = ti.agg := by
  have hk := h.hk
  unfold TI.agg
  unfold kindOk at hk
  split at hk <;> simp_all

theorem TyFacts.load (h : TyFacts P t ti d i) (b o : Nat) (cs : List Value) (w : World) (hl : cs.length = ti.size) (hc : ∀ (j : Nat) (v : Value), cs[j]? = some v → w.cell? ⟨b, o + j, none⟩ = some v) :
    (Instr.loadAt t (.pointer (some ⟨b, o, none⟩))).run P w = .ok (if ti.agg then .agg cs.toArray else cs.headD undef) w := by
  by_cases ha : ti.agg = true
  · rw [if_pos ha]
    exact run_loadAt_mid w b o t cs d hc h.hu (by rw [h.row, ha]) (by rw [h.hi]; simp [h.hs, hl])
  · rw [if_neg ha]
    have ha' : ti.agg = false := by simpa using ha
    have h1 := h.h1 ha'
    obtain ⟨v, rfl⟩ : ∃ v, cs = [v] := by
      match cs, hl with
      | [], e => simp [h1] at e
      | [v], _ => exact ⟨v, rfl⟩
      | _ :: _ :: _, e => simp [h1] at e
    have hv := hc 0 v rfl
    simp only [Instr.loadAt, Instr.sureAddr, Sem.run_bind, Sem.run_pure, Result.andThen_ok, loadVar, h.isAgg w, ha', Bool.false_eq_true, if_false, run_load, List.headD_cons]
    simp only [Nat.add_zero] at hv
    rw [hv]

theorem headD_get {α : Type} (cs : List α) (x : α) (a : α) (h : cs[0]? = some a) : cs.headD x = a := by
  cases cs with
  | nil => simp at h
  | cons y ys => simpa using h
end

theorem fun_list (f : Nat → Value) (n : Nat) (j : Nat) (v : Value) (h : ((List.range n).map f)[j]? = some v) : j < n ∧ v = f j := by
  simp only [List.getElem?_map, Option.map_eq_some_iff] at h
  obtain ⟨q, e, rfl⟩ := h
  have hq := List.getElem?_eq_some_iff.1 e
  obtain ⟨hlt, hq⟩ := hq
  simp at hlt hq
  subst hq
  exact ⟨hlt, rfl⟩

theorem drop_take_get {α : Type} (cs : List α) (off n j : Nat) (h : j < n) : ((cs.drop off).take n)[j]? = cs[off + j]? := by
  rw [List.getElem?_take_of_lt h, List.getElem?_drop]

/-- It gives this, and the world is as it was. -/
def GivesP (K : Know) (ι : Nat → Value) (st : Store) (w : World) (r : Result Value) (v : PV) : Prop := ∃ rv, r = .ok rv w ∧ VRel K ι st v rv
theorem GivesP.mk {K ι st w} {v : PV} {rv : Value} (h : VRel K ι st v rv) : GivesP K ι st w (.ok rv w) v := ⟨rv, rfl, h⟩

/-- A load. -/
theorem load_gives {E : Env} (hE : EnvOk E) {K ι st w} (h : Rel E.G K ι st w) {t : TypeId} {te : TI} (hT : E.T t = some te) (b o : Nat) (f : Nat → Value) (cs : List PV) (off : Nat) (v : PV)
    (hv : partF te cs off = some v) (hc : ∀ j : Nat, j < cs.length → w.cell? ⟨b, o + j, none⟩ = some (f j)) (h1 : ∀ j, j < cs.length → (f j).oneCell' = true)
    (hr : ∀ (j : Nat) (p : PV), cs[j]? = some p → VRel K ι st p (f j)) : GivesP K ι st w ((Instr.loadAt t (.pointer (some ⟨b, o + off, none⟩))).run E.P w) v := by
  obtain ⟨d, i, ty⟩ := hE.ty hT
  unfold partF at hv
  by_cases ha : te.agg = true
  · rw [if_pos ha] at hv
    split at hv
    · rename_i hfit
      injection hv with hv
      subst hv
      have hl := ty.load b (o + off) ((List.range te.size).map fun j => f (off + j)) w (by simp) (fun j v hj => by
        obtain ⟨hlt, rfl⟩ := fun_list _ _ _ _ hj
        rw [Nat.add_assoc]
        exact hc _ (by omega))
      rw [hl, if_pos ha]
      refine GivesP.mk (.agg _ _ (by simp; omega) (fun j v hj => ?_) (fun j p v hp hj => ?_))
      · rw [List.getElem?_toArray] at hj
        obtain ⟨hlt, rfl⟩ := fun_list _ _ _ _ hj
        exact h1 _ (by omega)
      · rw [List.getElem?_toArray] at hj
        obtain ⟨hlt, rfl⟩ := fun_list _ _ _ _ hj
        rw [drop_take_get _ _ _ _ hlt] at hp
        exact hr _ _ hp
    · cases hv
  · have ha' : te.agg = false := by simpa using ha
    rw [if_neg ha] at hv
    have hlt : off < cs.length := (List.getElem?_eq_some_iff.1 hv).1
    have hl := ty.load b (o + off) [f off] w (by simp [ty.h1 ha']) (fun j v hj => by
      match j, hj with
      | 0, hj => simp at hj; subst hj; exact hc _ hlt)
    rw [hl, if_neg ha]
    exact GivesP.mk (hr _ _ hv)

theorem load_pure {E : Env} (hE : EnvOk E) {K ι st w} (h : Rel E.G K ι st w) {t : TypeId} {te : TI} (hT : E.T t = some te) {x : PV} {a : Value} (ha : VRel K ι st x a) {v : PV} {st' : Store}
    (ho : (match x with
      | .rptr cs => (partF te cs 0).map fun v => (v, st)
      | .optr id tot off => (match st[id]? with
        | some (.cells cs) => if tot = cs.length then (partF te cs off).map fun v => (v, st) else none
        | _ => none)
      | _ => none) = some (v, st')) : st' = st ∧ GivesP K ι st w ((Instr.loadAt t a).run E.P w) v := by
  cases x with
  | rptr cs =>
    obtain ⟨v', hv, e⟩ := Option.map_eq_some_iff.1 ho
    injection e with e1 e2
    subst e1 e2
    obtain ⟨b, off, f, rfl, hK, h1, hr⟩ := ha.rptrV
    exact ⟨rfl, load_gives hE h hT b off f cs 0 v' hv (fun j hj => h.know _ _ (hK j hj)) (fun j _ => h1 j) (fun j p hp => .tree _ _ (hr j p hp))⟩
  | optr id tot off =>
    simp only at ho
    split at ho
    · rename_i cs hst
      split at ho
      · rename_i htot
        obtain ⟨v', hv, e⟩ := Option.map_eq_some_iff.1 ho
        injection e with e1 e2
        subst e1 e2
        cases ha with
        | tree _ _ q => cases q
        | optr _ _ _ a cs' hst' hle heq =>
          rw [hst] at hst'
          injection hst' with hst'
          injection hst' with hst'
          subst hst'
          obtain ⟨b, s, hh, rfl⟩ := heq htot
          obtain ⟨b', arr, e, hh', hw, hl, hcs, hn⟩ := h.obj id _ hst
          rw [hh] at hh'
          injection hh' with q1 _ q3
          injection q1 with q1
          injection q1 with q1
          subst q1
          have get : ∀ j, j < cs.length → ∃ x, arr[j]? = some x := fun j hj => ⟨_, Array.getElem?_eq_getElem (by omega)⟩
          have := load_gives hE h hT b 0 (fun j => (arr[j]?).getD undef) cs off v' hv (fun j hj => by
              obtain ⟨x, hx⟩ := get j hj
              simp [World.cell?, hw, hx]) (fun j hj => by
              obtain ⟨p, hp⟩ : ∃ p, cs[j]? = some p := ⟨_, List.getElem?_eq_getElem hj⟩
              obtain ⟨v, a1, a2, a3⟩ := hcs j p hp
              rw [a1]; exact a3) (fun j p hp => by
              obtain ⟨v, a1, a2, a3⟩ := hcs j p hp
              rw [a1]; exact a2)
          exact ⟨rfl, by simpa using this⟩
      · cases ho
    · cases ho
  | _ => cases ho

theorem gives_load {E : Env} (hE : EnvOk E) {K ι st w} (h : Rel E.G K ι st w) {t : TypeId} {te : TI} (hT : E.T t = some te) {x : PV} {a : Value} (ha : VRel K ι st x a) {v : PV} {st' : Store}
    (ho : (match x with
      | .rptr cs => (partF te cs 0).map fun v => (v, st)
      | .optr id tot off => (match st[id]? with
        | some (.cells cs) => if tot = cs.length then (partF te cs off).map fun v => (v, st) else none
        | _ => none)
      | _ => none) = some (v, st')) : Gives E.G K ι st w ((Instr.loadAt t a).run E.P w) v st' := by
  obtain ⟨rfl, rv, e, r⟩ := load_pure hE h hT ha ho
  rw [e]
  exact Gives.pure h r

theorem TyFacts.storeV {P t ti d i} (h : TyFacts P t ti d i) (v : Value) (hs : v.cells.size = ti.size) (b o : Nat) (e : TypeId) (arr : Array Value) (w : World) (hw : w.heap[b]? = some (.cells arr e (0, 0)))
    (hfit : o + v.cells.size ≤ arr.size) (h1 : ∀ u ∈ v.cells.toList, u.oneCell' = true) :
    (Instr.storeAt t (.pointer (some ⟨b, o, none⟩)) v).run P w = .ok () (w.setRow b (arr.toList.take o ++ v.cells.toList ++ arr.toList.drop (o + v.cells.toList.length)).toArray) := by
  have hst := run_storeCells_at P b o e v.cells.toList 0 arr w hw (by simpa using hfit) h1
  simp only [Nat.add_zero] at hst
  have hn : ¬ (v.cells.size ≠ ti.size) := by simp [hs]
  simp only [Instr.storeAt, Instr.sureAddr, Sem.run_bind, Sem.run_pure, Result.andThen_ok, storeVar, h.sizeOf w, if_neg hn]
  exact hst

/-- The cells of a value. -/
theorem VRel.cellsV {K ι st p v} (h : VRel K ι st p v) (hs : scal p = true ∨ ∃ cs, p = .agg cs) : (cellsOf p).length = v.cells.size ∧ (∀ u ∈ v.cells.toList, u.oneCell' = true) ∧
    ∀ (i : Nat) (q : PV) (u : Value), (cellsOf p)[i]? = some q → v.cells.toList[i]? = some u → VRel K ι st q u := by
  rcases hs with hs | ⟨cs, rfl⟩
  · obtain ⟨h1, h2⟩ := h.one hs
    have : cellsOf p = [p] := by cases p <;> simp_all [scal, cellsOf]
    rw [this, h2]
    refine ⟨rfl, by simpa using h1, fun i q u hq hu => ?_⟩
    match i, hq, hu with
    | 0, hq, hu => simp at hq hu; subst hq hu; exact h
  · obtain ⟨vs, rfl, hl, h1, hr⟩ := h.aggV
    refine ⟨hl, fun u hu => ?_, fun i q u hq hu => hr i q u hq (by simpa [Value.cells] using hu)⟩
    obtain ⟨j, hj⟩ := List.mem_iff_getElem?.1 hu
    exact h1 j u (by simpa [Value.cells] using hj)

theorem gives_store {E : Env} (hE : EnvOk E) {K ι st w} (h : Rel E.G K ι st w) {t : TypeId} {te : TI} (hT : E.T t = some te) {id tot off : Nat} {a : Value} (ha : VRel K ι st (.optr id tot off) a) {p : PV} {v : Value}
    (hp : VRel K ι st p v) {cs : List PV} (hst : st[id]? = some (.cells cs)) (htot : tot = cs.length) (hfit : off + te.size ≤ tot) (hl : (cellsOf p).length = te.size) (hs : scal p = true ∨ ∃ cs, p = .agg cs) :
    ∃ w', (Instr.storeAt t a v).run E.P w = .ok () w' ∧ Stp E.G K ι st w K ι (st.set id (.cells (splice cs off (cellsOf p)))) w' := by
  obtain ⟨d, i, ty⟩ := hE.ty hT
  obtain ⟨l1, o1, r1⟩ := hp.cellsV hs
  obtain ⟨b, arr, e, hh, hw, hf, stp⟩ := Stp.store h id cs hst off (cellsOf p) v.cells.toList (by simpa using l1) (by omega) o1 r1
  cases ha with
  | tree _ _ q => cases q
  | optr _ _ _ a cs' hst' hle heq =>
    rw [hst] at hst'
    injection hst' with hst'
    injection hst' with hst'
    subst hst'
    obtain ⟨b', s, hh', rfl⟩ := heq htot
    rw [hh] at hh'
    injection hh' with q1 _ q3
    injection q1 with q1
    injection q1 with q1
    subst q1
    exact ⟨_, ty.storeV v (by omega) b off e arr w hw (by simpa using hf) o1, stp⟩

/-- New cells: a variable. -/
theorem Stp.newCells {G K ι st w} (h : Rel G K ι st w) (cs : List PV) (vs : Array Value) (e : TypeId) (hl : cs.length = vs.size) (h1 : ∀ (j : Nat) (v : Value), vs[j]? = some v → v.oneCell' = true)
    (hr : ∀ (j : Nat) (p : PV) (v : Value), cs[j]? = some p → vs[j]? = some v → VRel K ι st p v) :
    Stp G K ι st w K (ins ι st.length (.slice (some ⟨w.heap.size, 0, none⟩) 0 vs.size)) (st ++ [.cells cs]) (w.alloc (.cells vs e)) ∧
    VRel K (ins ι st.length (.slice (some ⟨w.heap.size, 0, none⟩) 0 vs.size)) (st ++ [.cells cs]) (.optr st.length cs.length 0) (.pointer (some ⟨w.heap.size, 0, none⟩)) := by
  refine ⟨Stp.newOb h (.cells cs) _ _ rfl (fun x hno => ⟨w.heap.size, vs, e, rfl, heap_alloc_new w _, by omega, fun j p hp => ?_, hno⟩),
    .optr _ _ _ _ cs (by simp) (Nat.le_refl _) (fun _ => ⟨w.heap.size, vs.size, by rw [ins_same], rfl⟩)⟩
  have hj : j < vs.size := by rw [← hl]; exact (List.getElem?_eq_some_iff.1 hp).1
  have e1 : vs[j]? = some vs[j] := Array.getElem?_eq_getElem hj
  exact ⟨_, e1, (hr j p _ hp e1).mono x, h1 j _ e1⟩

theorem run_newVar {P : Program} (t : TypeId) (v : Value) (w : World) : (newVar t v).run P w = .ok ⟨w.heap.size, 0, none⟩ (w.alloc (.cells v.cells t)) := by
  simp [newVar, newRow]

theorem gives_alloc {E : Env} (hE : EnvOk E) {K ι st w} (h : Rel E.G K ι st w) {t : TypeId} {te : TI} (hT : E.T t = some te) :
    Gives E.G K ι st w ((Instr.alloc t true (.tuple #[])).run E.P w) (.optr st.length te.size 0) (st ++ [.cells te.zero]) := by
  obtain ⟨d, i, ty⟩ := hE.ty hT
  obtain ⟨z, hz, hs, hl, hr, _, _⟩ := ty.hz
  obtain ⟨s1, s2⟩ := Stp.newCells h te.zero z.cells t (by omega) (fun j v hj => by
    have hj' : j < te.zero.length := by rw [hl, ← hs]; exact (Array.getElem?_eq_some_iff.1 hj).1
    obtain ⟨v', a1, a2, a3⟩ := hr K j _ (List.getElem?_eq_getElem hj')
    rw [hj] at a1; injection a1 with a1; subst a1; exact a3) (fun j p v hp hj => by
    obtain ⟨v', a1, a2, a3⟩ := hr K j p hp
    rw [hj] at a1; injection a1 with a1; subst a1; exact .tree _ _ a2)
  refine ⟨_, _, _, _, ?_, s1, by rw [hl] at s2; exact s2⟩
  simp [Instr.alloc, ty.zeroV hz, run_newVar]

theorem gives_box {E : Env} {K ι st w} (h : Rel E.G K ι st w) {t : TypeId} {p : PV} {v : Value} (hp : VRel K ι st p v) (hs : scal p = true ∨ ∃ cs, p = .agg cs) :
    Gives E.G K ι st w ((Instr.box t v).run E.P w) (.optr st.length (cellsOf p).length 0) (st ++ [.cells (cellsOf p)]) := by
  obtain ⟨l1, o1, r1⟩ := hp.cellsV hs
  obtain ⟨s1, s2⟩ := Stp.newCells h (cellsOf p) v.cells t l1 (fun j u hj => o1 u (List.mem_of_getElem? (i := j) (by simpa using hj))) (fun j q u hq hj => r1 j q u hq (by simpa using hj))
  refine ⟨_, _, _, _, ?_, s1, s2⟩
  simp [Instr.box, run_newVar]

end Go.Pv
end
section
namespace Go.Pv

theorem idx_int {K ι st} {p : PV} {v : Value} {j : Nat} (h : idxN p = some j) (hv : VRel K ι st p v) : ∃ k, v = .int k (j : Int) ∧ p = .int k (j : Int) := by
  unfold idxN at h
  split at h
  · rename_i k n
    split at h
    · rename_i hn
      injection h with h
      subst h
      have : ((n.toNat : Nat) : Int) = n := Int.toNat_of_nonneg hn
      exact ⟨k, by rw [this]; exact hv.intV, by rw [this]⟩
    · cases h
  · cases h

theorem kind_strct {P t ti d i fs} (ty : TyFacts P t ti d i) (hk : ti.kind = .strct fs) : ∃ l, P.underlying t = some (.struct l) ∧ l.toList.map (fun f => (f.offset, f.type)) = fs := by
  have h := ty.hk
  rw [hk] at h
  rw [ty.hu]
  cases d <;> simp [kindOk] at h
  exact ⟨_, rfl, h⟩
theorem kind_slice {P t ti d i e} (ty : TyFacts P t ti d i) (hk : ti.kind = .slice e) : P.underlying t = some (.slice e) := by
  have h := ty.hk
  rw [hk] at h
  rw [ty.hu]
  cases d <;> simp [kindOk] at h
  rw [h]
theorem kind_array {P t ti d i n e} (ty : TyFacts P t ti d i) (hk : ti.kind = .array n e) : P.underlying t = some (.array n e) := by
  have h := ty.hk
  rw [hk] at h
  rw [ty.hu]
  cases d <;> simp [kindOk] at h
  rw [h.1, h.2.1]
theorem kind_array_le {P t ti d i n e} (ty : TyFacts P t ti d i) (hk : ti.kind = .array n e) : n ≤ LIM := by
  have h := ty.hk
  rw [hk] at h
  cases d <;> simp [kindOk] at h
  rw [← h.1]; exact h.2.2
theorem kind_str {P t ti d i} (ty : TyFacts P t ti d i) (hk : ti.kind = .str) : P.underlying t = some .string := by
  have h := ty.hk
  rw [hk] at h
  rw [ty.hu]
  cases d <;> simp [kindOk] at h
  rfl
theorem kind_int {P t ti d i k} (ty : TyFacts P t ti d i) (hk : ti.kind = .int k) : P.underlying t = some (.int k) := by
  have h := ty.hk
  rw [hk] at h
  rw [ty.hu]
  cases d <;> simp [kindOk] at h
  rw [h]
theorem kind_map {P t ti d i k v} (ty : TyFacts P t ti d i) (hk : ti.kind = .map k v) : P.underlying t = some (.map k v) := by
  have h := ty.hk
  rw [hk] at h
  rw [ty.hu]
  cases d <;> simp [kindOk] at h
  rw [h.1, h.2]

theorem field_at {l : Array Field} {fs : List (Nat × TypeId)} (h : l.toList.map (fun f => (f.offset, f.type)) = fs) {j : Nat} {o : Nat} {t : TypeId} (hj : fs[j]? = some (o, t)) :
    ∃ f, l[j]? = some f ∧ f.offset = o ∧ f.type = t := by
  rw [← h, List.getElem?_map] at hj
  obtain ⟨f, hf, e⟩ := Option.map_eq_some_iff.1 hj
  injection e with e1 e2
  exact ⟨f, by simpa using hf, e1, e2⟩

theorem run_fieldAt_plain {P : Program} {s : TypeId} {l : Array Field} (hu : P.underlying s = some (.struct l)) {j : Nat} {f : Field} (hf : l[j]? = some f) {n : Nat} (hs : ∀ w, (sizeOf f.type).run P w = .ok n w) (hn : n ≠ 0) (b o : Nat) (w : World) :
    (Instr.fieldAt s (.pointer (some ⟨b, o, none⟩)) j).run P w = .ok (.pointer (some ⟨b, o + f.offset, none⟩)) w := by
  simp [Instr.fieldAt, run_underlying hu, hf, Instr.sureAddr, fieldPlace, hs, hn, Addr.add_mid]

theorem rptr_drop {K : Know} {cs : List PV} {b off : Nat} {f : Nat → Value} (hK : ∀ i : Nat, i < cs.length → K ⟨b, off + i, none⟩ = some (f i)) (h1 : ∀ i : Nat, (f i).oneCell' = true)
    (hr : ∀ (i : Nat) (p : PV), cs[i]? = some p → TRel K p (f i)) (n : Nat) : TRel K (.rptr (cs.drop n)) (.pointer (some ⟨b, off + n, none⟩)) :=
  .rptr _ b (off + n) (fun i => f (n + i)) (fun i hi => by
    rw [List.length_drop] at hi
    rw [Nat.add_assoc]
    exact hK _ (by omega)) (fun i => h1 _) (fun i p hp => by
    rw [List.getElem?_drop] at hp
    exact hr _ p hp)

theorem optr_shift {K ι st id tot off} {a : Value} (h : VRel K ι st (.optr id tot off) a) (b' o' : Nat) (n : Nat) (ha : a = .pointer (some ⟨b', o', none⟩)) : VRel K ι st (.optr id tot (off + n)) (.pointer (some ⟨b', o' + n, none⟩)) := by
  cases h with
  | tree _ _ q => cases q
  | optr _ _ _ a cs hst hle heq =>
    injection ha with ha
    injection ha with ha
    subst ha
    refine .optr _ _ _ _ cs hst hle (fun q => ?_)
    obtain ⟨b, s, e1, e2⟩ := heq q
    injection e2 with q1 q2 _
    exact ⟨b, s, e1, by rw [q1, q2]⟩

/-- Of a pointer that is no longer current nothing is known but that it is one. -/
theorem VRel.optrV {K ι st id tot off} {a : Value} (h : VRel K ι st (.optr id tot off) a) : ∃ ad, a = .pointer (some ad) := by
  cases h with
  | tree _ _ q => cases q
  | optr _ _ _ a cs hst hle heq => exact ⟨a, rfl⟩

theorem add_any (a : Addr) (n : Nat) (b o : Nat) (h : a = ⟨b, o, none⟩) : a.add n = ⟨b, o + n, none⟩ := by rw [h]; exact Addr.add_mid b o n

theorem optr_add {K ι st id tot off} {ad : Addr} (h : VRel K ι st (.optr id tot off) (.pointer (some ad))) (n : Nat) : VRel K ι st (.optr id tot (off + n)) (.pointer (some (ad.add n))) := by
  cases h with
  | tree _ _ q => cases q
  | optr _ _ _ a cs hst hle heq =>
    refine .optr _ _ _ _ cs hst hle (fun q => ?_)
    obtain ⟨b, s, e1, e2⟩ := heq q
    exact ⟨b, s, e1, add_any ad n b off e2⟩

theorem run_fieldAt_any {P : Program} {s : TypeId} {l : Array Field} (hu : P.underlying s = some (.struct l)) {j : Nat} {f : Field} (hf : l[j]? = some f) {n : Nat} (hs : ∀ w, (sizeOf f.type).run P w = .ok n w) (hn : n ≠ 0) (a : Addr) (w : World) :
    (Instr.fieldAt s (.pointer (some a)) j).run P w = .ok (.pointer (some (a.add f.offset))) w := by
  simp [Instr.fieldAt, run_underlying hu, hf, Instr.sureAddr, fieldPlace, hs, hn]

theorem gives_fieldAddr {E : Env} (hE : EnvOk E) {K ι st w} (h : Rel E.G K ι st w) {s ft : TypeId} {ts tf : TI} {fs} (hT : E.T s = some ts) (hk : ts.kind = .strct fs) {j foff : Nat} (hj : fs[j]? = some (foff, ft))
    (hTf : E.T ft = some tf) (hn : tf.size ≠ 0) {p q : PV} {a : Value} (hp : VRel K ι st p a)
    (ho : (∃ cs, p = .rptr cs ∧ q = .rptr (cs.drop foff)) ∨ ∃ id tot off, p = .optr id tot off ∧ q = .optr id tot (off + foff)) : Gives E.G K ι st w ((Instr.fieldAt s a j).run E.P w) q st := by
  obtain ⟨d, i, ty⟩ := hE.ty hT
  obtain ⟨d', i', tyf⟩ := hE.ty hTf
  obtain ⟨l, hu, hl⟩ := kind_strct ty hk
  obtain ⟨f, hf, rfl, rfl⟩ := field_at hl hj
  rcases ho with ⟨cs, rfl, rfl⟩ | ⟨id, tot, off, rfl, rfl⟩
  · obtain ⟨b, off, g, rfl, hK, h1, hr⟩ := hp.rptrV
    rw [run_fieldAt_plain hu hf (fun w => tyf.sizeOf w) hn b off w]
    exact Gives.pure h (.tree _ _ (rptr_drop hK h1 hr _))
  · obtain ⟨ad, rfl⟩ := hp.optrV
    rw [run_fieldAt_any hu hf (fun w => tyf.sizeOf w) hn ad w]
    exact Gives.pure h (optr_add hp _)

theorem run_part {E : Env} (hE : EnvOk E) {K ι st} {t : TypeId} {te : TI} (hT : E.T t = some te) {cs : List PV} {vs : Array Value} (hl : cs.length = vs.size)
    (h1 : ∀ (i : Nat) (v : Value), vs[i]? = some v → v.oneCell' = true) (hr : ∀ (i : Nat) (p : PV) (v : Value), cs[i]? = some p → vs[i]? = some v → VRel K ι st p v) {off : Nat} {v : PV} (hv : partF te cs off = some v) (w : World) :
    ∃ rv, (part t vs off).run E.P w = .ok rv w ∧ VRel K ι st v rv := by
  obtain ⟨d, i, ty⟩ := hE.ty hT
  unfold partF at hv
  by_cases ha : te.agg = true
  · rw [if_pos ha] at hv
    split at hv
    · rename_i hfit
      injection hv with hv
      subst hv
      refine ⟨.agg (vs.extract off (off + te.size)), by simp [part, ty.isAgg w, ha, ty.sizeOf w], .agg _ _ (by simp; omega) (fun j v hj => ?_) (fun j p v hp hj => ?_)⟩
      · rw [Array.getElem?_extract] at hj
        split at hj
        · exact h1 _ _ hj
        · cases hj
      · rw [Array.getElem?_extract] at hj
        split at hj
        · rename_i hlt
          have hlt' : j < te.size := by omega
          rw [drop_take_get _ _ _ _ hlt'] at hp
          exact hr _ _ _ hp hj
        · cases hj
    · cases hv
  · have ha' : te.agg = false := by simpa using ha
    rw [if_neg ha] at hv
    have hlt : off < cs.length := (List.getElem?_eq_some_iff.1 hv).1
    have e1 : vs[off]? = some (vs[off]'(by omega)) := Array.getElem?_eq_getElem _
    refine ⟨_, ?_, hr off _ _ hv e1⟩
    simp [part, ty.isAgg w, ha', e1]

theorem gives_field {E : Env} (hE : EnvOk E) {K ι st w} (h : Rel E.G K ι st w) {s ft : TypeId} {ts tf : TI} {fs} (hT : E.T s = some ts) (hk : ts.kind = .strct fs) {j foff : Nat} (hj : fs[j]? = some (foff, ft))
    (hTf : E.T ft = some tf) {cs : List PV} {a : Value} (hp : VRel K ι st (.agg cs) a) {v : PV} (hv : partF tf cs foff = some v) : Gives E.G K ι st w ((Instr.field s a j).run E.P w) v st := by
  obtain ⟨d, i, ty⟩ := hE.ty hT
  obtain ⟨l, hu, hl⟩ := kind_strct ty hk
  obtain ⟨f, hf, rfl, rfl⟩ := field_at hl hj
  obtain ⟨vs, rfl, l1, o1, r1⟩ := hp.aggV
  obtain ⟨rv, e1, e2⟩ := run_part hE hTf l1 o1 r1 hv w
  have : (Instr.field s (.agg vs) j).run E.P w = .ok rv w := by
    simp [Instr.field, run_underlying hu, hf, asAgg, e1]
  rw [this]
  exact Gives.pure h e2

theorem gives_indexAddr {E : Env} (hE : EnvOk E) {K ι st w} (h : Rel E.G K ι st w) {t : TypeId} {ti : TI} (hT : E.T t = some ti) {x y q : PV} {a b : Value} (ha : VRel K ι st x a) (hb : VRel K ι st y b) {j : Nat} (hj : idxN y = some j)
    (ho : (∃ e k es tok c, ti.kind = .slice e ∧ (∃ te, E.T e = some te ∧ te.size = k) ∧ x = .sl k es tok ∧ es[j]? = some c ∧ q = .rptr c) ∨
      (∃ e te id tot off len k, ti.kind = .slice e ∧ E.T e = some te ∧ te.size = k ∧ x = .osl id tot off len k ∧ j < len ∧ q = .optr id tot (off + j * k)) ∨
      (∃ n e te cs, ti.kind = .array n e ∧ E.T e = some te ∧ x = .rptr cs ∧ j < n ∧ q = .rptr (cs.drop (j * te.size))) ∨
      ∃ n e te id tot off, ti.kind = .array n e ∧ E.T e = some te ∧ x = .optr id tot off ∧ j < n ∧ q = .optr id tot (off + j * te.size)) :
    Gives E.G K ι st w ((Instr.indexAt t a b).run E.P w) q st := by
  obtain ⟨kk, rfl, rfl⟩ := idx_int hj hb
  obtain ⟨d, i, ty⟩ := hE.ty hT
  rcases ho with ⟨e, k, es, tok, c, hk, ⟨te, hTe, hs⟩, rfl, hc, rfl⟩ | ⟨e, te, id, tot, off, len, k, hk, hTe, hs, rfl, hlt, rfl⟩ | ⟨n, e, te, cs, hk, hTe, rfl, hlt, rfl⟩ | ⟨n, e, te, id, tot, off, hk, hTe, rfl, hlt, rfl⟩
  · obtain ⟨d', i', tye⟩ := hE.ty hTe
    have hu := kind_slice ty hk
    have hjl : j < es.length := (List.getElem?_eq_some_iff.1 hc).1
    have hne : es ≠ [] := fun e => by rw [e] at hjl; simp at hjl
    cases ha.slTree with
    | sl _ _ _ A cc b off f hkk hA hK hv h1 hcc hm hn ht =>
      have hA' := hA hne
      subst hA'
      have hcl := hkk j c hc
      have : (Instr.indexAt t (.slice (some ⟨b, off, none⟩) es.length cc) (.int kk (j : Int))).run E.P w = .ok (.pointer (some ⟨b, off + j * k, none⟩)) w := by
        simp [Instr.indexAt, asIntOf, run_underlying hu, hjl, tye.sizeOf, hs, Addr.add_mid]
      rw [this]
      exact Gives.pure h (.tree _ _ (.rptr c b (off + j * k) (f j) (fun i hi => by rw [Nat.add_assoc]; exact hK j i hjl (by omega)) (fun i => h1 j i) (fun i p hp => hv j i c p hc hp)))
  · obtain ⟨d', i', tye⟩ := hE.ty hTe
    have hu := kind_slice ty hk
    cases ha with
    | tree _ _ q => cases q
    | osl _ _ _ _ _ A c cs hst hle hlc hn heq =>
      obtain ⟨ad, rfl⟩ : ∃ ad, A = some ad := by
        cases A with
        | none => have := hn.1 rfl; omega
        | some ad => exact ⟨ad, rfl⟩
      have : (Instr.indexAt t (.slice (some ad) len c) (.int kk (j : Int))).run E.P w = .ok (.pointer (some (ad.add (j * k)))) w := by
        simp [Instr.indexAt, asIntOf, run_underlying hu, hlt, tye.sizeOf, hs]
      rw [this]
      refine Gives.pure h (.optr _ _ _ _ cs hst hle (fun q => ?_))
      obtain ⟨b, s, e1, e2, _⟩ := heq q
      have := e2 (by omega)
      injection this with this
      exact ⟨b, s, e1, add_any ad _ b off this⟩
  · obtain ⟨d', i', tye⟩ := hE.ty hTe
    have hu := kind_array ty hk
    obtain ⟨b, off, g, rfl, hK, h1, hr⟩ := ha.rptrV
    have : (Instr.indexAt t (.pointer (some ⟨b, off, none⟩)) (.int kk (j : Int))).run E.P w = .ok (.pointer (some ⟨b, off + j * te.size, none⟩)) w := by
      simp [Instr.indexAt, Instr.sureAddr, asIntOf, run_underlying hu, hlt, tye.sizeOf, Addr.add_mid]
    rw [this]
    exact Gives.pure h (.tree _ _ (rptr_drop hK h1 hr _))
  · obtain ⟨d', i', tye⟩ := hE.ty hTe
    have hu := kind_array ty hk
    obtain ⟨ad, rfl⟩ := ha.optrV
    have : (Instr.indexAt t (.pointer (some ad)) (.int kk (j : Int))).run E.P w = .ok (.pointer (some (ad.add (j * te.size)))) w := by
      simp [Instr.indexAt, Instr.sureAddr, asIntOf, run_underlying hu, hlt, tye.sizeOf]
    rw [this]
    exact Gives.pure h (optr_add ha _)

theorem gives_index {E : Env} (hE : EnvOk E) {K ι st w} (h : Rel E.G K ι st w) {t : TypeId} {ti : TI} (hT : E.T t = some ti) {x y q : PV} {a b : Value} (ha : VRel K ι st x a) (hb : VRel K ι st y b) {j : Nat} (hj : idxN y = some j)
    (ho : (∃ s c, ti.kind = .str ∧ x = .str s ∧ s[j]? = some c ∧ q = .int .u8 c.toNat) ∨
      (∃ n e te cs, ti.kind = .array n e ∧ E.T e = some te ∧ x = .agg cs ∧ j < n ∧ partF te cs (j * te.size) = some q)) :
    Gives E.G K ι st w ((Instr.index t a b).run E.P w) q st := by
  obtain ⟨kk, rfl, rfl⟩ := idx_int hj hb
  obtain ⟨d, i, ty⟩ := hE.ty hT
  rcases ho with ⟨s, c, hk, rfl, hc, rfl⟩ | ⟨n, e, te, cs, hk, hTe, rfl, hlt, hv⟩
  · have hu := kind_str ty hk
    rw [ha.strV]
    have hc' : (bytesV s)[j]? = some c := by
      obtain ⟨hlt, e⟩ := List.getElem?_eq_some_iff.1 hc
      have hs : (bytesV s).size = s.length := by simp [bytesV, ByteArray.size]
      rw [getElem?_pos (bytesV s) j (by rw [hs]; exact hlt)]
      congr 1
    have : (Instr.index t (.string (bytesV s)) (.int kk (j : Int))).run E.P w = .ok (.int .u8 c.toNat) w := by
      simp [Instr.index, asIntOf, run_underlying hu, hc']
    rw [this]
    exact Gives.pure h (.tree _ _ (.int _ _))
  · obtain ⟨d', i', tye⟩ := hE.ty hTe
    have hu := kind_array ty hk
    obtain ⟨vs, rfl, l1, o1, r1⟩ := ha.aggV
    obtain ⟨rv, e1, e2⟩ := run_part hE hTe l1 o1 r1 hv w
    have : (Instr.index t (.agg vs) (.int kk (j : Int))).run E.P w = .ok rv w := by
      simp [Instr.index, asIntOf, run_underlying hu, hlt, tye.sizeOf, e1]
    rw [this]
    exact Gives.pure h e2

end Go.Pv
end
section
namespace Go.Pv

theorem opt_idx {K ι st} {o : Option PV} {v : Option Value} {d j : Nat} (h : (match o with | none => some d | some p => idxN p) = some j) (hv : ∀ p, o = some p → ∃ a, v = some a ∧ VRel K ι st p a) (hn : o = none → v = none) :
    (o = none ∧ v = none ∧ j = d) ∨ ∃ k, v = some (.int k (j : Int)) ∧ o.isSome = true := by
  cases o with
  | none => simp at h; exact .inl ⟨rfl, hn rfl, h.symm⟩
  | some p =>
    obtain ⟨a, rfl, ha⟩ := hv p rfl
    obtain ⟨k, rfl, _⟩ := idx_int h ha
    exact .inr ⟨k, rfl, rfl⟩

theorem bound_in {P : Program} (k : IntKind) (j y : Nat) (c : BoundsCode) (h : j ≤ y) (w : World) : (Instr.sliceBound (.int k (j : Int)) y c).run P w = .ok j w := by
  have : (j : Int) ≤ (y : Int) := by omega
  simp [Instr.sliceBound, asIntOf, this]

/-- The bounds of a cut. -/
theorem sliceF_run {P : Program} {K ι st} {len : Nat} {lo hi mx : Option PV} {vlo vhi vmx : Option Value} {l h : Nat} {f : Bool} (hs : sliceF len lo hi mx = some (l, h, f))
    (h1 : ∀ p, lo = some p → ∃ a, vlo = some a ∧ VRel K ι st p a) (h1' : lo = none → vlo = none) (h2 : ∀ p, hi = some p → ∃ a, vhi = some a ∧ VRel K ι st p a) (h2' : hi = none → vhi = none)
    (h3 : ∀ p, mx = some p → ∃ a, vmx = some a ∧ VRel K ι st p a) (h3' : mx = none → vmx = none) (isS : Bool) (cap : Nat) (hc : len ≤ cap) (hc' : isS = false → cap = len) (w : World) :
    l ≤ h ∧ h ≤ len ∧ ∃ m, (Instr.sliceBounds isS len cap vlo vhi vmx).run P w = .ok (l, h, m) w ∧ h ≤ m ∧ m ≤ cap ∧ (f = true → m = h) ∧ (mx = none → m = cap) := by
  unfold sliceF at hs
  split at hs
  · rename_i hh ll eh el
    split at hs
    · rename_i hb
      cases mx with
      | none =>
        simp only [Option.some.injEq, Prod.mk.injEq] at hs
        obtain ⟨rfl, rfl, rfl⟩ := hs
        have hm : vmx = none := h3' rfl
        subst hm
        refine ⟨hb.1, hb.2, cap, ?_, by omega, Nat.le_refl _, by simp, fun _ => rfl⟩
        rcases opt_idx eh h2 h2' with ⟨q1, q2, q3⟩ | ⟨k, q2, q3⟩ <;> rcases opt_idx el h1 h1' with ⟨r1, r2, r3⟩ | ⟨k', r2, r3⟩ <;> subst q2 r2
        · subst q3 r3; simp [Instr.sliceBounds]
        · subst q3; simp [Instr.sliceBounds, bound_in _ _ _ _ hb.1]
        · subst r3; simp [Instr.sliceBounds, bound_in _ _ _ _ (Nat.le_trans hb.2 hc)]
        · simp [Instr.sliceBounds, bound_in _ _ _ _ (Nat.le_trans hb.2 hc), bound_in _ _ _ _ hb.1]
      | some p =>
        simp only at hs
        split at hs
        · rename_i m em
          split at hs
          · rename_i hm
            simp only [Option.some.injEq, Prod.mk.injEq] at hs
            obtain ⟨rfl, rfl, rfl⟩ := hs
            obtain ⟨a, rfl, ha⟩ := h3 p rfl
            obtain ⟨km, rfl, _⟩ := idx_int em ha
            refine ⟨hb.1, hb.2, m, ?_, hm.1, by omega, by simp, by simp⟩
            rcases opt_idx eh h2 h2' with ⟨q1, q2, q3⟩ | ⟨k, q2, q3⟩
            · rw [q1] at hm; simp at hm
            · rcases opt_idx el h1 h1' with ⟨r1, r2, r3⟩ | ⟨k', r2, r3⟩ <;> subst q2 r2
              · subst r3; simp [Instr.sliceBounds, bound_in _ _ _ _ (Nat.le_trans hm.2.1 hc), bound_in _ _ _ _ hm.1]
              · simp [Instr.sliceBounds, bound_in _ _ _ _ (Nat.le_trans hm.2.1 hc), bound_in _ _ _ _ hm.1, bound_in _ _ _ _ hb.1]
          · cases hs
        · cases hs
    · cases hs
  · cases hs

theorem str_cut (s : List UInt8) (l h : Nat) : (bytesV s).extract l h = bytesV ((s.take h).drop l) := by
  apply ByteArray.ext
  simp [bytesV, ByteArray.data_extract, List.drop_take]

/-- A shared slice, cut. -/
theorem TRel.cut {K : Know} {k : Nat} {es : List (List PV)} {A : Option Addr} {c : Nat} (h : TRel K (.sl k es .ro) (.slice A es.length c)) {l hh m : Nat} (hl : l ≤ hh) (hle : hh ≤ es.length) (hm : hh ≤ m) (hmc : m ≤ c) (t : Tok)
    (ht : t = .ro ∨ (t = .full ∧ m = hh)) : TRel K (.sl k ((es.take hh).drop l) t) (.slice (if m = l then A else A.map (·.add (l * k))) (hh - l) (m - l)) := by
  have hlen : ((es.take hh).drop l).length = hh - l := by simp; omega
  rw [← hlen]
  cases h with
  | sl _ _ _ _ _ b off f hk hA hK hv h1 hcc hmm hn _ =>
    have get : ∀ (j : Nat) (e : List PV), ((es.take hh).drop l)[j]? = some e → es[l + j]? = some e := by
      intro j e q
      rw [List.getElem?_drop] at q
      have : l + j < hh := by
        have := (List.getElem?_eq_some_iff.1 q).1
        simp at this; omega
      rwa [List.getElem?_take_of_lt this] at q
    refine .sl k _ t _ _ b (off + l * k) (fun j i => f (l + j) i) (fun j e q => hk _ _ (get j e q)) (fun hne => ?_) (fun j i hj hi => ?_) (fun j i e p q hp => hv _ _ e p (get j e q) hp) (fun j i => h1 _ _) (by omega) (by omega) (fun q => ?_) (by
      rcases ht with q | ⟨q, rfl⟩
      · exact .inl q
      · exact .inr ⟨q, hlen.symm⟩)
    · have hlt : 0 < ((es.take hh).drop l).length := List.length_pos_iff.2 hne
      have hne' : es ≠ [] := fun q => by rw [q] at hlt; simp at hlt
      rw [if_neg (by omega), hA hne']
      simp [Addr.add_mid]
    · rw [hlen] at hj
      have := hK (l + j) i (by omega) hi
      rw [← this]
      congr 2
      rw [Nat.add_mul]; omega
    · split at q
      · omega
      · cases A with
        | none => have := hn rfl; omega
        | some ad => cases q

theorem gives_slice {E : Env} (hE : EnvOk E) {K ι st w} (h : Rel E.G K ι st w) {t : TypeId} {ti : TI} (hT : E.T t = some ti) {x q : PV} {a : Value} (ha : VRel K ι st x a) {lo hi mx : Option PV} {vlo vhi vmx : Option Value}
    (h1 : ∀ p, lo = some p → ∃ a, vlo = some a ∧ VRel K ι st p a) (h1' : lo = none → vlo = none) (h2 : ∀ p, hi = some p → ∃ a, vhi = some a ∧ VRel K ι st p a) (h2' : hi = none → vhi = none)
    (h3 : ∀ p, mx = some p → ∃ a, vmx = some a ∧ VRel K ι st p a) (h3' : mx = none → vmx = none)
    (ho : (∃ s l h f, ti.kind = .str ∧ x = .str s ∧ mx = none ∧ sliceF s.length lo hi none = some (l, h, f) ∧ q = .str ((s.take h).drop l)) ∨
      (∃ e te k es tok l h f, ti.kind = .slice e ∧ E.T e = some te ∧ te.size = k ∧ x = .sl k es tok ∧ sliceF es.length lo hi mx = some (l, h, f) ∧
        q = .sl k ((es.take h).drop l) (if f then .full else match tok with | .full => if h = es.length ∧ mx.isNone then .full else .ro | _ => .ro)) ∨
      (∃ e te id tot off len k l h f, ti.kind = .slice e ∧ E.T e = some te ∧ te.size = k ∧ x = .osl id tot off len k ∧ sliceF len lo hi mx = some (l, h, f) ∧ q = .osl id tot (off + l * k) (h - l) k) ∨
      (∃ n e te id tot off cs l h f, ti.kind = .array n e ∧ E.T e = some te ∧ x = .optr id tot off ∧ st[id]? = some (.cells cs) ∧ sliceF n lo hi mx = some (l, h, f) ∧ tot = cs.length ∧ off + n * te.size ≤ tot ∧
        q = .osl id tot (off + l * te.size) (h - l) te.size)) :
    Gives E.G K ι st w ((Instr.sliceAt t a vlo vhi vmx).run E.P w) q st := by
  obtain ⟨d, i, ty⟩ := hE.ty hT
  rcases ho with ⟨s, l, hh, f, hk, rfl, rfl, hs, rfl⟩ | ⟨e, te, k, es, tok, l, hh, f, hk, hTe, hsz, rfl, hs, rfl⟩ | ⟨e, te, id, tot, off, len, k, l, hh, f, hk, hTe, hsz, rfl, hs, rfl⟩ | ⟨n, e, te, id, tot, off, cs, l, hh, f, hk, hTe, rfl, hst, hs, htot, hfit, rfl⟩
  · have hu := kind_str ty hk
    have hm := h3' rfl
    subst hm
    rw [ha.strV]
    obtain ⟨b1, b2, m, b3, _⟩ := sliceF_run (P := E.P) hs h1 h1' h2 h2' (fun _ q => by cases q) (fun _ => rfl) false s.length (Nat.le_refl _) (fun _ => rfl) w
    have hsz : (bytesV s).size = s.length := by simp [bytesV, ByteArray.size]
    have : (Instr.sliceAt t (.string (bytesV s)) vlo vhi none).run E.P w = .ok (.string (bytesV ((s.take hh).drop l))) w := by
      simp [Instr.sliceAt, Instr.slice, run_underlying hu, hsz, b3, str_cut]
    rw [this]
    exact Gives.pure h (.tree _ _ (.str _))
  · have hu := kind_slice ty hk
    obtain ⟨d', i', tye⟩ := hE.ty hTe
    have htr := ha.slTree
    obtain ⟨A, c, b, off, g, rfl, _, _, _, _, _, hcc, hmm, _, _⟩ := htr.slCells
    obtain ⟨b1, b2, m, b3, b4, b5, b6, b7⟩ := sliceF_run (P := E.P) hs h1 h1' h2 h2' h3 h3' true c hcc (fun q => by cases q) w
    have : (Instr.sliceAt t (.slice A es.length c) vlo vhi vmx).run E.P w = .ok (.slice (if m = l then A else A.map (·.add (l * k))) (hh - l) (m - l)) w := by
      simp [Instr.sliceAt, Instr.slice, run_underlying hu, b3, tye.sizeOf, hsz]
    rw [this]
    refine Gives.pure h (.tree _ _ (htr.cut b1 b2 b4 b5 _ ?_))
    by_cases hf : f = true
    · rw [if_pos hf]; exact .inr ⟨rfl, b6 hf⟩
    · rw [if_neg hf]
      cases tok with
      | full =>
        simp only
        split
        · rename_i hq
          refine .inr ⟨rfl, ?_⟩
          have hmx : mx = none := by simpa using hq.2
          rw [b7 hmx, hq.1]
          cases ha with
          | tree _ _ q =>
            cases q with
            | sl _ _ _ _ _ _ _ _ _ _ _ _ _ _ _ _ ht => simpa using ht
        · exact .inl rfl
      | _ => exact .inl rfl
  · have hu := kind_slice ty hk
    obtain ⟨d', i', tye⟩ := hE.ty hTe
    cases ha with
    | tree _ _ q => cases q
    | osl _ _ _ _ _ A c cs hst hle hlc hn heq =>
      obtain ⟨b1, b2, m, b3, b4, b5, b6, b7⟩ := sliceF_run (P := E.P) hs h1 h1' h2 h2' h3 h3' true c hlc (fun q => by cases q) w
      have : (Instr.sliceAt t (.slice A len c) vlo vhi vmx).run E.P w = .ok (.slice (if m = l then A else A.map (·.add (l * k))) (hh - l) (m - l)) w := by
        simp [Instr.sliceAt, Instr.slice, run_underlying hu, b3, tye.sizeOf, hsz]
      rw [this]
      refine Gives.pure h (.osl _ _ _ _ _ _ _ cs hst hle (by omega) ⟨fun q => ?_, by have := hn.2; omega⟩ (fun q => ?_))
      · split at q
        · omega
        · cases A with
          | none => have := hn.1 rfl; omega
          | some ad => cases q
      · obtain ⟨b, s, e1, e2, e3, e4⟩ := heq q
        refine ⟨b, s, e1, fun hz => ?_, ?_, ?_⟩
        · rw [if_neg (by omega), e2 (by omega)]
          simp [Addr.add_mid]
        · have : (l + (hh - l)) * k ≤ len * k := Nat.mul_le_mul_right k (by omega)
          rw [Nat.add_mul] at this
          omega
        · have : (l + (m - l)) * k ≤ c * k := Nat.mul_le_mul_right k (by omega)
          rw [Nat.add_mul] at this
          omega
  · have hu := kind_array ty hk
    obtain ⟨d', i', tye⟩ := hE.ty hTe
    cases ha with
    | tree _ _ q => cases q
    | optr _ _ _ ad cs' hst' hle heq =>
      rw [hst] at hst'
      injection hst' with hst'
      injection hst' with hst'
      subst hst'
      obtain ⟨b, s, e1, rfl⟩ := heq htot
      obtain ⟨b1, b2, m, b3, b4, b5, b6, b7⟩ := sliceF_run (P := E.P) hs h1 h1' h2 h2' h3 h3' false n (Nat.le_refl _) (fun _ => rfl) w
      have : (Instr.sliceAt t (.pointer (some ⟨b, off, none⟩)) vlo vhi vmx).run E.P w = .ok (.slice (some (if m = l then ⟨b, off, none⟩ else ⟨b, off + l * te.size, none⟩)) (hh - l) (m - l)) w := by
        simp [Instr.sliceAt, Instr.sureAddr, run_underlying hu, b3, tye.sizeOf, Addr.add_mid]
      rw [this]
      obtain ⟨b', arr, ee, hh', hw, hl, _⟩ := h.obj id _ hst
      rw [e1] at hh'
      injection hh' with q1 _ q3
      refine Gives.pure h (.osl _ _ _ _ _ _ _ cs hst hle (by omega) ⟨fun q => (by cases q), by have := kind_array_le ty hk; unfold LIM at this; have : maxLen = 9223372036854775807 := rfl; omega⟩ (fun q => ⟨b, s, e1, fun hz => by rw [if_neg (by omega)], ?_, ?_⟩))
      · have : (l + (hh - l)) * te.size ≤ n * te.size := Nat.mul_le_mul_right _ (by omega)
        rw [Nat.add_mul] at this
        omega
      · have : (l + (m - l)) * te.size ≤ n * te.size := Nat.mul_le_mul_right _ (by omega)
        rw [Nat.add_mul] at this
        omega

end Go.Pv
end
section
namespace Go.Pv

theorem rep_get {α : Type} (z : List α) : ∀ (n j : Nat), j < n * z.length → ((List.replicate n z).flatten)[j]? = z[j % z.length]?
  | 0, j, h => by simp at h
  | n + 1, j, h => by
    rw [List.replicate_succ, List.flatten_cons]
    by_cases hj : j < z.length
    · rw [List.getElem?_append_left hj, Nat.mod_eq_of_lt hj]
    · rw [List.getElem?_append_right (by omega), rep_get z n (j - z.length) (by rw [Nat.add_mul] at h; omega)]
      congr 1
      exact (Nat.mod_eq_sub_mod (by omega)).symm
theorem rep_length {α : Type} (z : List α) (n : Nat) : ((List.replicate n z).flatten).length = n * z.length := by
  induction n with
  | zero => simp
  | succ n ih => rw [List.replicate_succ, List.flatten_cons, List.length_append, ih, Nat.add_mul]; omega

theorem wrap64_id {n : Int} (h0 : -9223372036854775808 ≤ n) (h1 : n ≤ 9223372036854775807) : IntKind.i64.wrap n = n := by
  exact IntWalk.i64_in n ⟨by omega, by omega⟩

theorem mk_cells (z : Array Value) (n j : Nat) (h : j < n * z.size) : (((Array.range (n * z.size)).map fun i => z[i % z.size]!))[j]? = z[j % z.size]? := by
  have hz : 0 < z.size := by
    rcases Nat.eq_zero_or_pos z.size with e | e
    · rw [e] at h; simp at h
    · exact e
  have hlt : j % z.size < z.size := Nat.mod_lt _ hz
  simp [h, hlt]

theorem gives_makeSlice {E : Env} (hE : EnvOk E) {K ι st w} (h : Rel E.G K ι st w) {t e : TypeId} {ti te : TI} (hT : E.T t = some ti) (hk : ti.kind = .slice e) (hTe : E.T e = some te) (n : Nat) (hn : n ≤ LIM) (hp : 0 < te.size) :
    Gives E.G K ι st w ((Instr.makeSlice t (.int .i64 (n : Int)) (.int .i64 (n : Int))).run E.P w) (.osl st.length (n * te.size) 0 n te.size) (st ++ [.cells ((List.replicate n te.zero).flatten)]) := by
  obtain ⟨d, i, ty⟩ := hE.ty hT
  obtain ⟨d', i', tye⟩ := hE.ty hTe
  obtain ⟨z, hz, hs, hl, hr, _, _⟩ := tye.hz
  have hu := kind_slice ty hk
  unfold LIM at hn
  have hw : IntKind.i64.wrap (n : Int) = n := wrap64_id (by omega) (by omega)
  have hb := tye.hb
  have hbytes : i'.bytes * n ≤ 4096 * n := Nat.mul_le_mul_right n hb
  have hi' : (i'.bytes : Int) * (n : Int) ≤ 281474976710656 := by
    rw [← Int.natCast_mul]
    omega
  have run : (Instr.makeSlice t (.int .i64 (n : Int)) (.int .i64 (n : Int))).run E.P w =
      .ok (.slice (some ⟨w.heap.size, 0, none⟩) n n) (w.alloc (.cells ((Array.range (n * te.size)).map fun j => (if n * te.size = 0 then (#[] : Array Value) else z.cells)[j % (if n * te.size = 0 then (#[] : Array Value) else z.cells).size]!) e)) := by
    have h2 : ¬ ((281474976710656 : Int) < (i'.bytes : Int) * (n : Int)) := by omega
    have h3 : ¬ ((n : Int) < 0) := by omega
    by_cases h0 : n * te.size = 0
    · have hn0 : n = 0 := (Nat.mul_eq_zero.1 h0).resolve_right (by omega)
      subst hn0
      have hw0 : IntKind.i64.wrap 0 = 0 := wrap64_id (by omega) (by omega)
      simp [Instr.makeSlice, run_underlying hu, asInt, asIntOf, typeInfo, tye.hi, tye.sizeOf, newRow, hw0]
    · simp [Instr.makeSlice, run_underlying hu, asInt, asIntOf, typeInfo, tye.hi, hw, h2, h3, tye.sizeOf, h0, newRow, tye.zeroV hz]
  have hflat : (List.replicate n te.zero).flatten.length = n * te.size := by rw [rep_length, hl]
  have cellAt : ∀ j, j < n * te.size → ∃ v, ((Array.range (n * te.size)).map fun j => (if n * te.size = 0 then (#[] : Array Value) else z.cells)[j % (if n * te.size = 0 then (#[] : Array Value) else z.cells).size]!)[j]? = some v ∧
      z.cells[j % te.size]? = some v := by
    intro j hj
    have hne0 : ¬ n * te.size = 0 := by omega
    have := mk_cells z.cells n j (by rw [hs]; exact hj)
    rw [hs] at this
    have hm : j % te.size < z.cells.size := by rw [hs]; exact Nat.mod_lt _ hp
    refine ⟨z.cells[j % te.size], ?_, Array.getElem?_eq_getElem hm⟩
    simp only [if_neg hne0, hs]
    rw [this]
    exact Array.getElem?_eq_getElem hm
  have zc : ∀ (j : Nat) (p : PV), te.zero[j]? = some p → ∀ v : Value, z.cells[j]? = some v → TRel K p v ∧ v.oneCell' = true := by
    intro j p hp v hv
    obtain ⟨v', a1, a2, a3⟩ := hr K j p hp
    rw [hv] at a1; injection a1 with a1; subst a1
    exact ⟨a2, a3⟩
  have s1 := Stp.newCells h ((List.replicate n te.zero).flatten) ((Array.range (n * te.size)).map fun j => (if n * te.size = 0 then (#[] : Array Value) else z.cells)[j % (if n * te.size = 0 then (#[] : Array Value) else z.cells).size]!) e
    (by rw [hflat]; simp) (fun j v hj => by
      have hlt : j < n * te.size := by simpa using (Array.getElem?_eq_some_iff.1 hj).1
      obtain ⟨v', b1, b2⟩ := cellAt j hlt
      rw [hj] at b1; injection b1 with b1; subst b1
      have hm : j % te.size < te.zero.length := by rw [hl]; exact Nat.mod_lt _ hp
      exact (zc _ _ (List.getElem?_eq_getElem hm) v b2).2) (fun j p v hp' hj => by
      have hlt : j < n * te.size := by simpa using (Array.getElem?_eq_some_iff.1 hj).1
      obtain ⟨v', b1, b2⟩ := cellAt j hlt
      rw [hj] at b1; injection b1 with b1; subst b1
      rw [rep_get _ _ _ (by rw [hl]; exact hlt), hl] at hp'
      exact .tree _ _ (zc _ _ hp' v b2).1)
  obtain ⟨s1, s2⟩ := s1
  refine ⟨_, _, _, _, run, s1, .osl _ _ _ _ _ _ _ ((List.replicate n te.zero).flatten) (by simp) (by omega) (Nat.le_refl _) ⟨fun q => (by cases q), by have : maxLen = 9223372036854775807 := rfl; omega⟩ (fun q => ⟨w.heap.size, _, by rw [ins_same], fun _ => rfl, by omega, by simp⟩)⟩

theorem gives_makeMap {E : Env} {K ι st w} (h : Rel E.G K ι st w) (t : TypeId) : Gives E.G K ι st w ((Instr.makeMap t none).run E.P w) (.map st.length) (st ++ [.map []]) := by
  have s1 := Stp.newOb h (.map []) (.map #[] 0) (.map (some w.heap.size)) rfl (fun _ _ => ⟨w.heap.size, #[], 0, rfl, heap_alloc_new w _, rfl, by simp, by simp, by simp⟩)
  refine ⟨_, _, _, _, ?_, s1, .map _ [] w.heap.size (by simp) (by rw [ins_same])⟩
  simp [Instr.makeMap]

theorem same_key {K ι st p q} {a b : Value} {r : Bool} (h : keyEq p q = some r) (ha : VRel K ι st p a) (hb : VRel K ι st q b) (td : TypeDesc) (hd : (∃ k, td = .int k) ∧ (∃ k n, p = .int k n) ∨ td = .string ∧ ∃ s, p = .str s) : Instr.sameNow td a b = some r := by
  unfold keyEq at h
  split at h
  · rw [ha.intV, hb.intV]
    split at h
    · rename_i hk
      injection h with h
      subst h hk
      rcases hd with ⟨⟨k, rfl⟩, _⟩ | ⟨_, s, e⟩
      · simp [Instr.sameNow]
      · cases e
    · cases h
  · rw [ha.strV, hb.strV]
    injection h with h
    subst h
    rcases hd with ⟨_, ⟨k, n, e⟩⟩ | ⟨rfl, _⟩
    · cases e
    · have : ∀ x y : List UInt8, (bytesV x == bytesV y) = (x == y) := fun x y => by rw [beq_toListBytes, toList_bytesV, toList_bytesV]
      simp [Instr.sameNow, this]
  · rcases hd with ⟨_, k, n, e⟩ | ⟨_, s, e⟩ <;> cases e
  · cases h

theorem find_key {K ι st p} {a : Value} (ha : VRel K ι st p a) (td : TypeDesc) (hd : (∃ k, td = .int k) ∧ (∃ k n, p = .int k n) ∨ td = .string ∧ ∃ s, p = .str s) :
    ∀ (es : List (PV × PV)) (ents : List MapEntry) (i : Nat) (r : Option (Nat × PV)), findF p es i = some r → ents.length = es.length →
      (∀ (j : Nat) (kp vp : PV) (en : MapEntry), es[j]? = some (kp, vp) → ents[j]? = some en → VRel K ι st kp en.key ∧ VRel K ι st vp en.val) →
      (r = none ∧ Instr.findNow td a ents i = some none) ∨ ∃ j v en, r = some (i + j, v) ∧ ents[j]? = some en ∧ (∃ kp, es[j]? = some (kp, v) ∧ keyEq p kp = some true) ∧ VRel K ι st v en.val ∧ Instr.findNow td a ents i = some (some (i + j, en.val))
  | [], [], i, r, h, _, _ => by
    simp [findF] at h
    exact .inl ⟨h.symm, rfl⟩
  | [], _ :: _, i, r, _, hl, _ => by simp at hl
  | _ :: _, [], i, r, _, hl, _ => by simp at hl
  | (kp, vp) :: es, en :: ents, i, r, h, hl, hr => by
    obtain ⟨r1, r2⟩ := hr 0 kp vp en rfl rfl
    simp only [findF] at h
    split at h
    · rename_i hk
      injection h with h
      subst h
      refine .inr ⟨0, vp, en, rfl, rfl, ⟨kp, rfl, hk⟩, r2, ?_⟩
      simp [Instr.findNow, same_key hk ha r1 td hd]
    · rename_i hk
      rcases find_key ha td hd es ents (i + 1) r h (by simpa using hl) (fun j kp vp en h1 h2 => hr (j + 1) kp vp en (by simpa using h1) (by simpa using h2)) with ⟨rfl, e⟩ | ⟨j, v, en', rfl, e1, ⟨kp', e2, e2'⟩, e3, e4⟩
      · exact .inl ⟨rfl, by simp [Instr.findNow, same_key hk ha r1 td hd, e]⟩
      · refine .inr ⟨j + 1, v, en', by simp; omega, by simpa using e1, ⟨kp', by simpa using e2, e2'⟩, e3, ?_⟩
        simp only [Instr.findNow, same_key hk ha r1 td hd, e4]
        congr 3
        omega
    · cases h

theorem key_kind {E : Env} {P t t' ik d i} (ty : TyFacts P t ik d i) {p : PV} (hk : keyK E t' ik p = true) (hp : isAgg p = false) : (∃ k, d = .int k) ∧ (∃ k n, p = .int k n) ∨ d = .string ∧ ∃ s, p = .str s := by
  unfold keyK at hk
  have hkk := ty.hk
  split at hk
  · rename_i k' k n e
    rw [e] at hkk
    cases d <;> simp [kindOk] at hkk
    exact .inl ⟨⟨_, rfl⟩, ⟨_, _, rfl⟩⟩
  · rename_i s e
    rw [e] at hkk
    cases d <;> simp [kindOk] at hkk
    exact .inr ⟨rfl, ⟨_, rfl⟩⟩
  · simp [isAgg] at hp
  · cases hk

theorem check_key {P : Program} {t : TypeId} {d : TypeDesc} (hu : P.underlying t = some d) (hd : (∃ k, d = .int k) ∨ d = .string) (b : Bool) (v : Value) (w : World) : (Instr.checkKey b 10000 t v).run P w = .ok () w := by
  rcases hd with ⟨k, rfl⟩ | rfl <;> (unfold Instr.checkKey; simp [run_underlying hu])

theorem cellFit_kind {E : Env} {t : TypeId} {p : PV} (h : cellFit E t p = true) : (∃ k s z, E.T t = some ⟨.int k, s, z⟩) ∨ (∃ s z, E.T t = some ⟨.bool, s, z⟩) ∨ ∃ s z, E.T t = some ⟨.str, s, z⟩ := by
  unfold cellFit at h
  split at h
  · exact .inl ⟨_, _, _, by assumption⟩
  · exact .inr (.inl ⟨_, _, by assumption⟩)
  · exact .inr (.inr ⟨_, _, by assumption⟩)
  · cases h
theorem cellFit_other {E : Env} {t : TypeId} {p q : PV} {r : Bool} (h : cellFit E t p = true) (he : cellEq p q = some r) : cellFit E t q = true := by
  unfold cellEq at he
  split at he
  · split at he
    · rename_i hk; subst hk
      obtain ⟨s, z, hT⟩ := fit_int h
      simp [cellFit, hT]
    · cases he
  · obtain ⟨s, z, hT⟩ := fit_bool h
    simp [cellFit, hT]
  · obtain ⟨s, z, hT⟩ := fit_str h
    simp [cellFit, hT]
  · cases he
theorem fit_other {E : Env} : ∀ {ts : List TypeId} {a b : List PV} {r : Bool}, fitAll E ts a = true → cellsEq a b = some r → fitAll E ts b = true
  | [], [], [], _, _, _ => rfl
  | [], [], _ :: _, _, _, h => by simp [cellsEq] at h
  | [], _ :: _, _, _, h, _ => by simp [fitAll] at h
  | _ :: _, [], _, _, h, _ => by simp [fitAll] at h
  | _ :: _, _ :: _, [], _, _, h => by simp [cellsEq] at h
  | t :: ts, p :: a, q :: b, r, hf, h => by
    simp only [fitAll, Bool.and_eq_true] at hf ⊢
    simp only [cellsEq] at h
    split at h
    · rename_i x y hx hy
      exact ⟨cellFit_other hf.1 hx, fit_other hf.2 hy⟩
    · cases h
/-- A key's cells are no key's that can't be hashed. -/
theorem check_agg {E : Env} (hE : EnvOk E) {K ι st} {t : TypeId} (he : E.eqt t = true) {fs0 : List (Nat × TypeId)} {s0 z0} (hT : E.T t = some ⟨.strct fs0, s0, z0⟩) {ts : List TypeId} (hts : flatTys E t = some ts) {cs : List PV} (hf : fitAll E ts cs = true)
    {va : Array Value} (l1 : cs.length = va.size) (r1 : ∀ (i : Nat) (p : PV) (v : Value), cs[i]? = some p → va[i]? = some v → VRel K ι st p v) (b : Bool) (w : World) : (Instr.checkKey b 10000 t (.agg va)).run E.P w = .ok () w := by
  have hok := hE.eqs t he
  unfold eqOkB at hok
  simp only [Bool.and_eq_true, Bool.not_eq_true'] at hok
  obtain ⟨_, _, o3⟩ := hok
  unfold flatTys at hts
  rw [hT] at hts
  simp only at hts
  split at hts
  · rename_i hoff
    injection hts with hts
    subst hts
    obtain ⟨d, i, ty⟩ := hE.ty hT
    have hk := ty.hk
    have hu := ty.hu
    cases d <;> simp only [kindOk, Bool.false_eq_true] at hk
    rename_i fl
    have hk : fl.toList.map (fun f => (f.offset, f.type)) = fs0 := by simpa using hk
    rw [hu] at o3
    rw [show (10000 : Nat) = 9999 + 1 from rfl, Instr.checkKey]
    simp only [Sem.run_bind, run_underlying hu, Result.andThen_ok]
    rw [← Array.forIn_toList]
    have names : ∀ f ∈ fl.toList, (f.name != "_") = true := fun f hf => by rw [List.all_eq_true] at o3; exact o3 f hf
    have offs : fl.toList.map (·.offset) = List.range' 0 fl.toList.length := by rw [← hk] at hoff; simpa [List.map_map, Function.comp_def] using hoff
    have fits : fitAll E (fl.toList.map (·.type)) cs = true := by rw [← hk] at hf; simpa [List.map_map, Function.comp_def] using hf
    have cell : ∀ (i : Nat) (p : PV), cs[i]? = some p → ∃ v, va[0 + i]? = some v ∧ VRel K ι st p v := by
      intro i p hp
      have hi := (List.getElem?_eq_some_iff.1 hp).1
      have e : va[i]? = some (va[i]'(by omega)) := Array.getElem?_eq_getElem _
      exact ⟨_, by rw [Nat.zero_add]; exact e, r1 i p _ hp e⟩
    clear hk o3 hoff hf r1 l1
    generalize fl.toList = L at names offs fits
    generalize 0 = off at offs cell
    induction L generalizing off cs with
    | nil => simp
    | cons f L ih =>
      cases cs with
      | nil => simp [fitAll] at fits
      | cons p ps =>
        simp only [List.map_cons, fitAll, Bool.and_eq_true] at fits
        simp only [List.map_cons, List.length_cons, List.range'_succ, List.cons.injEq] at offs
        obtain ⟨v, e1, r1⟩ := cell 0 p rfl
        rw [Nat.add_zero] at e1
        have hn : f.name ≠ "_" := by simpa using names f (by simp)
        have kind : E.P.plainKey f.type = true ∧ ∀ b w, (Instr.checkKey b 9999 f.type v).run E.P w = .ok () w := by
          rcases cellFit_kind fits.1 with ⟨k, s, z, hT'⟩ | ⟨s, z, hT'⟩ | ⟨s, z, hT'⟩
          · have hu := (under_scal hE hT').1 _ rfl
            exact ⟨by simp [Program.plainKey, hu], fun b w => by rw [show (9999 : Nat) = 9998 + 1 from rfl, Instr.checkKey]; simp [run_underlying hu]⟩
          · have hu := (under_scal hE hT').2.1 rfl
            exact ⟨by simp [Program.plainKey, hu], fun b w => by rw [show (9999 : Nat) = 9998 + 1 from rfl, Instr.checkKey]; simp [run_underlying hu]⟩
          · have hu := (under_scal hE hT').2.2 rfl
            exact ⟨by simp [Program.plainKey, hu], fun b w => by rw [show (9999 : Nat) = 9998 + 1 from rfl, Instr.checkKey]; simp [run_underlying hu]⟩
        simp only [List.forIn_cons, Sem.run_bind, hn, ne_eq, not_false_eq_true, if_true, Result.andThen_ok, offs.1, run_part_plain w kind.1 e1, kind.2, Sem.run_pure]
        exact ih (fun f hf => names f (by simp [hf])) fits.2 (off + 1) offs.2 (fun i p hp => by obtain ⟨v, e, r⟩ := cell (i + 1) p (by simpa using hp); exact ⟨v, by rw [← e]; congr 1; omega, r⟩)
  · cases hts
/-- A key of several cells is looked for, one entry after the other. -/
theorem find_ask {E : Env} (hE : EnvOk E) {K ι st} {t : TypeId} (he : E.eqt t = true) {ts : List TypeId} (hts : flatTys E t = some ts) {cs : List PV} (hf : fitAll E ts cs = true)
    {va : Array Value} (l1 : cs.length = va.size) (r1 : ∀ (i : Nat) (p : PV) (v : Value), cs[i]? = some p → va[i]? = some v → VRel K ι st p v) (w : World) :
    ∀ (es : List (PV × PV)) (ents : List MapEntry) (i : Nat) (r : Option (Nat × PV)), findF (.agg cs) es i = some r → ents.length = es.length →
      (∀ (j : Nat) (kp vp : PV) (en : MapEntry), es[j]? = some (kp, vp) → ents[j]? = some en → VRel K ι st kp en.key ∧ VRel K ι st vp en.val) →
      (r = none ∧ (Instr.findAsking t (.agg va) ents i).run E.P w = .ok none w) ∨ ∃ j v en, r = some (i + j, v) ∧ ents[j]? = some en ∧ (∃ kp, es[j]? = some (kp, v) ∧ keyEq (.agg cs) kp = some true) ∧ VRel K ι st v en.val ∧ (Instr.findAsking t (.agg va) ents i).run E.P w = .ok (some (i + j, en.val)) w
  | [], [], i, r, h, _, _ => by
    simp [findF] at h
    exact .inl ⟨h.symm, by simp [Instr.findAsking]⟩
  | [], _ :: _, i, r, _, hl, _ => by simp at hl
  | _ :: _, [], i, r, _, hl, _ => by simp at hl
  | (kp, vp) :: es, en :: ents, i, r, h, hl, hr => by
    obtain ⟨k1, k2⟩ := hr 0 kp vp en rfl rfl
    have run : ∀ x, keyEq (.agg cs) kp = some x → (Op.equal t (.agg va) en.key).run E.P w = .ok x w := by
      intro x hx
      unfold keyEq at hx
      split at hx
      · exact absurd ‹PV.agg cs = PV.int _ _› (by simp)
      · exact absurd ‹PV.agg cs = PV.str _› (by simp)
      · rename_i b _
        have e := ‹PV.agg cs = PV.agg _›
        cases e
        obtain ⟨vb, e2, l2, _, r2⟩ := k1.aggV
        rw [e2]
        have ha : aggEq E t cs b = some x := by
          unfold aggEq
          rw [hts]
          simp only [hf, fit_other hf hx, Bool.and_self, if_true]
          exact hx
        exact (aggEq_run hE he ha l1 l2 r1 r2 w).1
      · cases hx
    simp only [findF] at h
    split at h
    · rename_i hk
      injection h with h
      subst h
      refine .inr ⟨0, vp, en, rfl, rfl, ⟨kp, rfl, hk⟩, k2, ?_⟩
      simp [Instr.findAsking, run true hk]
    · rename_i hk
      rcases find_ask hE he hts hf l1 r1 w es ents (i + 1) r h (by simpa using hl) (fun j kp vp en h1 h2 => hr (j + 1) kp vp en (by simpa using h1) (by simpa using h2)) with ⟨rfl, e⟩ | ⟨j, v, en', rfl, e1, ⟨kp', e2, e2'⟩, e3, e4⟩
      · exact .inl ⟨rfl, by simp [Instr.findAsking, run false hk, e]⟩
      · refine .inr ⟨j + 1, v, en', by simp; omega, by simpa using e1, ⟨kp', by simpa using e2, e2'⟩, e3, ?_⟩
        simp only [Instr.findAsking, Sem.run_bind, run false hk, Result.andThen_ok, Bool.false_eq_true, if_false, e4]
        congr 3
        omega
    · cases h
/-- A look for a key, whatever kind it is of. -/
theorem find_run {E : Env} (hE : EnvOk E) {K ι st} {t : TypeId} {ik : TI} (hT : E.T t = some ik) {p : PV} {a : Value} (ha : VRel K ι st p a) (hkk : keyK E t ik p = true) {es : List (PV × PV)} {ents : List MapEntry} {r : Option (Nat × PV)} (hf : findF p es 0 = some r) (hl : ents.length = es.length)
    (hr : ∀ (j : Nat) (kp vp : PV) (en : MapEntry), es[j]? = some (kp, vp) → ents[j]? = some en → VRel K ι st kp en.key ∧ VRel K ι st vp en.val) (w : World) :
    (∀ b, (Instr.checkKey b 10000 t a).run E.P w = .ok () w) ∧
    ((r = none ∧ (Instr.findKey t a ents).run E.P w = .ok none w) ∨ ∃ j v en, r = some (j, v) ∧ ents[j]? = some en ∧ (∃ kp, es[j]? = some (kp, v) ∧ keyEq p kp = some true) ∧ VRel K ι st v en.val ∧ (Instr.findKey t a ents).run E.P w = .ok (some (j, en.val)) w) := by
  obtain ⟨d, i2, tyk⟩ := hE.ty hT
  cases hp : isAgg p with
  | false =>
    have hd := key_kind tyk hkk hp
    have hd' : (∃ k, d = .int k) ∨ d = .string := hd.imp (·.1) (·.1)
    refine ⟨fun b => check_key tyk.hu hd' b a w, ?_⟩
    rcases find_key ha d hd es ents 0 r hf hl hr with ⟨rfl, e⟩ | ⟨j, v, en, rfl, e1, e2, e3, e4⟩
    · exact .inl ⟨rfl, by simp [Instr.findKey, run_underlying tyk.hu, e]⟩
    · exact .inr ⟨j, v, en, by rw [Nat.zero_add], e1, e2, e3, by simp [Instr.findKey, run_underlying tyk.hu, e4]⟩
  | true =>
    cases p with
    | agg cs =>
      obtain ⟨kk, s0, z0⟩ := ik
      unfold keyK at hkk
      cases kk <;> simp only [Bool.false_eq_true] at hkk
      rename_i fs0
      simp only [Bool.and_eq_true] at hkk
      obtain ⟨he, hkk⟩ := hkk
      cases hts : flatTys E t with
      | none => rw [hts] at hkk; cases hkk
      | some ts =>
        rw [hts] at hkk
        obtain ⟨va, rfl, l1, _, r1⟩ := ha.aggV
        refine ⟨fun b => check_agg hE he hT hts hkk l1 r1 b w, ?_⟩
        have hask := find_ask hE he hts hkk l1 r1 w es ents 0 r hf hl hr
        have hk := tyk.hk
        have hu := tyk.hu
        cases d <;> simp only [kindOk, Bool.false_eq_true] at hk
        rename_i fl
        have hnow : Instr.findNow (.struct fl) (.agg va) ents 0 = none ∨ ents = [] := by
          cases ents with
          | nil => exact .inr rfl
          | cons en ents => exact .inl (by simp [Instr.findNow, Instr.sameNow])
        rcases hnow with hnow | hnow
        · have e : (Instr.findKey t (.agg va) ents).run E.P w = (Instr.findAsking t (.agg va) ents 0).run E.P w := by simp [Instr.findKey, run_underlying hu, hnow]
          rw [e]
          rcases hask with ⟨rfl, e⟩ | ⟨j, v, en, rfl, e1, e2, e3, e4⟩
          · exact .inl ⟨rfl, e⟩
          · exact .inr ⟨j, v, en, by rw [Nat.zero_add], e1, e2, e3, by rw [e4, Nat.zero_add]⟩
        · subst hnow
          rcases hask with ⟨rfl, e⟩ | ⟨j, v, en, rfl, e1, _⟩
          · exact .inl ⟨rfl, by simp [Instr.findKey, run_underlying hu, Instr.findNow]⟩
          · simp at e1
    | _ => cases hp

theorem valOf_rel {P t iv d i} (ty : TyFacts P t iv d i) (K : Know) : ∃ z, i.zero = some z ∧ TRel K (valOf iv iv.zero) z := by
  obtain ⟨z, hz, hs, hl, hr, h1, h2⟩ := ty.hz
  refine ⟨z, hz, ?_⟩
  unfold valOf
  by_cases ha : iv.agg = true
  · rw [if_pos ha]
    obtain ⟨cs, rfl⟩ := h1 ha
    simp only [Value.cells] at hs hr
    refine .agg _ _ (by omega) (fun j v hj => ?_) (fun j p v hp hj => ?_)
    · have hlt : j < iv.zero.length := by rw [hl, ← hs]; exact (Array.getElem?_eq_some_iff.1 hj).1
      obtain ⟨v', a1, a2, a3⟩ := hr K j _ (List.getElem?_eq_getElem hlt)
      rw [hj] at a1; injection a1 with a1; subst a1; exact a3
    · obtain ⟨v', a1, a2, a3⟩ := hr K j p hp
      rw [hj] at a1; injection a1 with a1; subst a1; exact a2
  · rw [if_neg ha]
    have hc := h2 (by simpa using ha)
    have h1' := ty.h1 (by simpa using ha)
    obtain ⟨p, hp⟩ : ∃ p, iv.zero[0]? = some p := ⟨_, List.getElem?_eq_getElem (by omega)⟩
    obtain ⟨v', a1, a2, a3⟩ := hr K 0 p hp
    rw [hc] at a1
    simp at a1
    subst a1
    rw [headD_get _ _ _ hp]
    exact a2

/-- A look into a map. -/
theorem gives_lookup {E : Env} (hE : EnvOk E) {K ι st w} (h : Rel E.G K ι st w) {t tk tv : TypeId} {ti ik iv : TI} (hT : E.T t = some ti) (hk : ti.kind = .map tk tv) (hTk : E.T tk = some ik) (hTv : E.T tv = some iv)
    {p m : PV} {a b : Value} (hp : VRel K ι st p a) (hm : VRel K ι st m b) (hkk : keyK E tk ik p = true) {es : List (PV × PV)} (hes : m = .nilmap ∧ es = [] ∨ ∃ id, m = .map id ∧ st[id]? = some (.map es)) {r : Option (Nat × PV)} (hf : findF p es 0 = some r) (ok : Bool) :
    Gives E.G K ι st w ((Instr.lookup t b a ok).run E.P w)
      (match r with | some (_, v) => if ok then .tup [v, .bool true] else v | none => if ok then .tup [valOf iv iv.zero, .bool false] else valOf iv iv.zero) st := by
  obtain ⟨d, i, ty⟩ := hE.ty hT
  obtain ⟨dk, i2, tyk⟩ := hE.ty hTk
  obtain ⟨dv, i3, tyv⟩ := hE.ty hTv
  have hu := kind_map ty hk
  obtain ⟨z, hz, hzr⟩ := valOf_rel tyv K
  -- the entries
  have ents : ∃ ents : Array MapEntry, (b = .map none ∧ ents = #[] ∨ ∃ r clock, b = .map (some r) ∧ w.heap[r]? = some (.map ents clock)) ∧ ents.size = es.length ∧
      ∀ (j : Nat) (kp vp : PV) (en : MapEntry), es[j]? = some (kp, vp) → ents.toList[j]? = some en → VRel K ι st kp en.key ∧ VRel K ι st vp en.val := by
    rcases hes with ⟨rfl, rfl⟩ | ⟨id, rfl, hst⟩
    · have : b = .map none := by cases hm with | tree _ _ q => cases q; rfl
      subst this
      exact ⟨#[], .inl ⟨rfl, rfl⟩, rfl, by simp⟩
    · obtain ⟨bb, ents, clock, hh, hw, hl, hr, _⟩ := h.obj id _ hst
      cases hm with
      | tree _ _ q => cases q
      | map _ es' b' hst' hb =>
        rw [hb] at hh
        injection hh with hh
        injection hh with hh
        subst hh
        refine ⟨ents, .inr ⟨b', clock, rfl, hw⟩, hl, fun j kp vp en h1 h2 => ?_⟩
        obtain ⟨en', a1, a2, a3⟩ := hr j kp vp h1
        simp at h2
        rw [a1] at h2
        injection h2 with h2
        subst h2
        exact ⟨a2, a3⟩
  obtain ⟨ents, he, hl, hr⟩ := ents
  obtain ⟨hck, hfk⟩ := find_run hE hTk hp hkk hf (ents := ents.toList) (by simpa using hl) hr w
  have fin : ∀ (v : PV) (rv : Value), VRel K ι st v rv → ∀ o : Bool, VRel K ι st (if ok then .tup [v, .bool o] else v) (if ok then .tuple #[rv, .bool o] else rv) := by
    intro v rv hv o
    cases ok
    · exact hv
    · refine .tup _ _ rfl (fun j p v' h1 h2 => ?_)
      match j, h1, h2 with
      | 0, h1, h2 => simp at h1 h2; subst h1 h2; exact hv
      | 1, h1, h2 => simp at h1 h2; subst h1 h2; exact .tree _ _ (.bool _)
      | j + 2, h1, h2 => simp at h1
  rcases hfk with ⟨rfl, e⟩ | ⟨j, v, en, rfl, e1, _, e3, e4⟩
  · refine ⟨K, ι, w, (if ok then .tuple #[z, .bool false] else z), ?_, .refl h, fin _ _ (.tree _ _ hzr) false⟩
    rcases he with ⟨rfl, rfl⟩ | ⟨r, clock, rfl, hw⟩
    · simp only [Instr.lookup, Sem.run_bind, run_underlying hu, Result.andThen_ok, Sem.run_pure, hck, e, tyv.zeroV hz]
    · simp only [Instr.lookup, Sem.run_bind, run_underlying hu, Result.andThen_ok, getObj, Sem.run, hw, Sem.run_pure, hck, e, tyv.zeroV hz]
  · refine ⟨K, ι, w, (if ok then .tuple #[en.val, .bool true] else en.val), ?_, .refl h, fin _ _ e3 true⟩
    rcases he with ⟨rfl, rfl⟩ | ⟨r, clock, rfl, hw⟩
    · simp only [Instr.lookup, Sem.run_bind, run_underlying hu, Result.andThen_ok, Sem.run_pure, hck, e4]
    · simp only [Instr.lookup, Sem.run_bind, run_underlying hu, Result.andThen_ok, getObj, Sem.run, hw, Sem.run_pure, hck, e4]

end Go.Pv
end
section
namespace Go.Pv

theorem sameBits_key {K ι st p q} {a b : Value} (hp : isAgg p = false) (h : keyEq p q = some true) (ha : VRel K ι st p a) (hb : VRel K ι st q b) : Instr.sameBits 10000 b a = true ∧ a = b := by
  unfold keyEq at h
  split at h
  · rw [ha.intV, hb.intV]
    split at h
    · rename_i hk
      subst hk
      simp at h
      subst h
      exact ⟨by simp [Instr.sameBits], rfl⟩
    · cases h
  · rw [ha.strV, hb.strV]
    simp at h
    subst h
    exact ⟨by simp [Instr.sameBits, beq_toListBytes], rfl⟩
  · simp [isAgg] at hp
  · cases h

theorem setObj_run {P : Program} {w : World} {r : Nat} {o o' : Go.Obj} (h : w.heap[r]? = some o) (hc : ∀ c e f, o ≠ .cells c e f) : (setObj r o').run P w = .ok () { w with heap := w.heap.setIfInBounds r o' } := by
  simp only [setObj, Sem.run, h]

theorem heap_set_other (w : World) (r k : Nat) (o : Go.Obj) (h : k ≠ r) : (w.heap.setIfInBounds r o)[k]? = w.heap[k]? := by
  rw [Array.getElem?_setIfInBounds_ne (Ne.symm h)]
theorem heap_set_same (w : World) (r : Nat) (o o' : Go.Obj) (h : w.heap[r]? = some o) : (w.heap.setIfInBounds r o')[r]? = some o' := by
  rw [Array.getElem?_setIfInBounds_self_of_lt (heap_lt h)]

/-- A map's object turns. -/
theorem Stp.mapSet {G K ι st w} (h : Rel G K ι st w) (id : Nat) (es es' : List (PV × PV)) (hid : st[id]? = some (.map es)) (b : Nat) (hh : ι id = .map (some b)) (ents ents' : Array MapEntry) (clock clock' : Nat) (hw : w.heap[b]? = some (.map ents clock))
    (ho : Ext K ι st K ι (st.set id (.map es')) → ents'.size = es'.length ∧
      (∀ (i : Nat) (kp vp : PV), es'[i]? = some (kp, vp) → ∃ en : MapEntry, ents'[i]? = some en ∧ VRel K ι (st.set id (.map es')) kp en.key ∧ VRel K ι (st.set id (.map es')) vp en.val) ∧
      (∀ (i : Nat) (x : MapEntry), ents'[i]? = some x → x.born = i) ∧ clock' = ents'.size) :
    Stp G K ι st w K ι (st.set id (.map es')) { w with heap := w.heap.setIfInBounds b (.map ents' clock') } := by
  have key := Stp.setOb h id (.map es) (.map es') hid (ι id) (by simp [Ob.le]) K (fun _ _ q => q) { w with heap := w.heap.setIfInBounds b (.map ents' clock') } b b (by rw [hh]; rfl) (by rw [hh]; rfl) (.inl rfl) rfl rfl rfl (by simp)
    (fun k _ hk => heap_set_other w b k _ hk)
    (fun a v q => by
      have hc := h.know a v q
      by_cases hab : a.block = b
      · rw [World.cell?, hab, hw] at hc; simp at hc
      · rw [← hc]; exact World.cell?_of_block (w := w) (heap_set_other w b a.block _ hab))
    (fun a v q => .inl q) (fun x => by
      rw [ins_id] at x ⊢
      exact ⟨b, ents', clock', hh, heap_set_same w b _ _ hw, ho x⟩)
  rw [ins_id] at key
  exact key

theorem gives_mapUpdate {E : Env} (hE : EnvOk E) {K ι st w} (h : Rel E.G K ι st w) {t tk tv : TypeId} {ti ik : TI} (hT : E.T t = some ti) (hk : ti.kind = .map tk tv) (hTk : E.T tk = some ik)
    {p : PV} {x : PV} {id : Nat} {a b c : Value} (hp : VRel K ι st p a) (hm : VRel K ι st (.map id) b) (hx : VRel K ι st x c) (hkk : keyK E tk ik p = true) {es : List (PV × PV)} (hst : st[id]? = some (.map es)) {r : Option (Nat × PV)} (hf : findF p es 0 = some r) (hpa : r = none ∨ isAgg p = false) :
    ∃ w', (Instr.mapUpdate t b a c).run E.P w = .ok () w' ∧ Stp E.G K ι st w K ι (st.set id (.map (match r with | some (i, _) => es.set i (p, x) | none => es ++ [(p, x)]))) w' := by
  obtain ⟨d, i, ty⟩ := hE.ty hT
  obtain ⟨dk, i2, tyk⟩ := hE.ty hTk
  have hu := kind_map ty hk
  obtain ⟨bb, ents, clock, hh, hw, hl, hr, hb1, hb2⟩ := h.obj id _ hst
  cases hm with
  | tree _ _ q => cases q
  | map _ es' b' hst' hb =>
    rw [hb] at hh
    injection hh with hh
    injection hh with hh
    subst hh
    have hr' : ∀ (j : Nat) (kp vp : PV) (en : MapEntry), es[j]? = some (kp, vp) → ents.toList[j]? = some en → VRel K ι st kp en.key ∧ VRel K ι st vp en.val := by
      intro j kp vp en h1 h2
      obtain ⟨en', a1, a2, a3⟩ := hr j kp vp h1
      simp at h2
      rw [a1] at h2
      injection h2 with h2
      subst h2
      exact ⟨a2, a3⟩
    obtain ⟨hck, hfk⟩ := find_run hE hTk hp hkk hf (ents := ents.toList) (by simpa using hl) hr' w
    rcases hfk with ⟨rfl, e⟩ | ⟨j, v, en, rfl, e1, ⟨kp, e2, e2'⟩, e3, e4⟩
    · refine ⟨_, ?_, Stp.mapSet h id es (es ++ [(p, x)]) hst b' hb ents (ents.push { key := a, val := c, born := clock }) clock (clock + 1) hw (fun q => ⟨by simp [hl], fun i kp vp hi => ?_, fun i x' h1 => ?_, by simp [hb2]⟩)⟩
      · simp only [Instr.mapUpdate, Sem.run_bind, run_underlying hu, Result.andThen_ok, getObj, Sem.run, hw, hck, e, Sem.run_pure]
        rw [setObj_run hw (by simp)]
      · by_cases hi' : i < es.length
        · rw [List.getElem?_append_left hi'] at hi
          obtain ⟨en, c1, c2, c3⟩ := hr i kp vp hi
          refine ⟨en, ?_, c2.mono q, c3.mono q⟩
          rw [Array.getElem?_push, if_neg (by omega)]; exact c1
        · have hi2 : i = es.length := by
            have := (List.getElem?_eq_some_iff.1 hi).1
            simp at this; omega
          subst hi2
          simp at hi
          obtain ⟨rfl, rfl⟩ := hi
          exact ⟨{ key := a, val := c, born := clock }, by rw [← hl]; simp, hp.mono q, hx.mono q⟩
      · rw [Array.getElem?_push] at h1
        split at h1
        · rename_i q1
          injection h1 with h1; subst h1; simp [hb2, q1]
        · exact hb1 i x' h1
    · have e1' : ents[j]? = some en := by simpa using e1
      have hpa' : isAgg p = false := hpa.resolve_left (by simp)
      obtain ⟨hkp, _⟩ := hr' j kp v en e2 e1
      obtain ⟨sb, rfl⟩ := sameBits_key hpa' e2' hp hkp
      have hj : j < ents.size := (Array.getElem?_eq_some_iff.1 e1').1
      refine ⟨_, ?_, Stp.mapSet h id es (es.set j (p, x)) hst b' hb ents (ents.modify j fun e => { e with key := en.key, val := c }) clock clock hw (fun q => ⟨by simp [hl], fun i kp' vp' hi => ?_, fun i x' h1 => ?_, by simp [hb2]⟩)⟩
      · simp only [Instr.mapUpdate, Sem.run_bind, run_underlying hu, Result.andThen_ok, getObj, Sem.run, hw, hck, e4, Sem.run_pure, e1', Option.map_some, Option.getD_some, Instr.keyThatStays, sb, if_true]
        rw [setObj_run hw (by simp)]
      · rw [Array.getElem?_modify]
        by_cases hij : j = i
        · subst hij
          rw [getElem?_set_eq' _ _ _ _ e2] at hi
          injection hi with hi
          injection hi with q1 q2
          subst q1 q2
          rw [if_pos rfl, e1']
          exact ⟨_, rfl, hp.mono q, hx.mono q⟩
        · rw [getElem?_set_ne' _ _ _ _ hij] at hi
          rw [if_neg hij]
          obtain ⟨en', c1, c2, c3⟩ := hr i kp' vp' hi
          exact ⟨en', c1, c2.mono q, c3.mono q⟩
      · rw [Array.getElem?_modify] at h1
        split at h1
        · obtain ⟨x0, q1, q2⟩ := Option.map_eq_some_iff.1 h1
          rw [← q2]
          exact hb1 i x0 q1
        · exact hb1 i x' h1

theorem gives_conv {E : Env} (hE : EnvOk E) {K ι st w} (h : Rel E.G K ι st w) {src dst : TypeId} {x q : PV} {a : Value} (ha : VRel K ι st x a)
    (ho : (∃ ts td k k' n, E.T src = some ts ∧ E.T dst = some td ∧ td.kind = .int k ∧ x = .int k' n ∧ q = .int k (k.wrap n)) ∨ ∃ ts td s, E.T src = some ts ∧ E.T dst = some td ∧ ts.kind = .str ∧ td.kind = .str ∧ x = .str s ∧ q = .str s) :
    Gives E.G K ι st w ((convert src dst a).run E.P w) q st := by
  rcases ho with ⟨ts, td, k, k', n, hTs, hTd, hk, rfl, rfl⟩ | ⟨ts, td, s, hTs, hTd, hk, hk', rfl, rfl⟩
  · obtain ⟨d, i, ty⟩ := hE.ty hTs
    obtain ⟨d', i', ty'⟩ := hE.ty hTd
    have hu := kind_int ty' hk
    rw [ha.intV]
    have : (convert src dst (.int k' n)).run E.P w = .ok (.int k (k.wrap n)) w := by
      simp only [convert, Sem.run_bind, ty.underl w, Result.andThen_ok, run_underlying hu, Conv.intToInt, Sem.run_pure]
    rw [this]
    exact Gives.pure h (.tree _ _ (.int _ _))
  · obtain ⟨d, i, ty⟩ := hE.ty hTs
    obtain ⟨d', i', ty'⟩ := hE.ty hTd
    have hu := kind_str ty' hk'
    have hu0 := kind_str ty hk
    rw [ha.strV]
    have : (convert src dst (.string (bytesV s))).run E.P w = .ok (.string (bytesV s)) w := by
      simp only [convert, Sem.run_bind, run_underlying hu0, Result.andThen_ok, run_underlying hu, Sem.run_pure]
    rw [this]
    exact Gives.pure h (.tree _ _ (.str _))

theorem gives_extract {G : Nat → PV} {P : Program} {K ι st w} (h : Rel G K ι st w) {vs : List PV} {a : Value} (ha : VRel K ι st (.tup vs) a) {i : Nat} {q : PV} (hq : vs[i]? = some q) : Gives G K ι st w ((Instr.extract a i).run P w) q st := by
  obtain ⟨us, rfl, hl, hr⟩ := ha.tupV
  have hlt : i < us.size := by rw [← hl]; exact (List.getElem?_eq_some_iff.1 hq).1
  have e : us[i]? = some us[i] := Array.getElem?_eq_getElem hlt
  have : (Instr.extract (.tuple us) i).run P w = .ok us[i] w := by simp [Instr.extract, e, Sem.run_pure]
  rw [this]
  exact Gives.pure h (hr i q _ hq e)

end Go.Pv
end
section
namespace Go.Pv

theorem isAgg_spec {p : PV} (h : (scal p || isAgg p) = true) : scal p = true ∨ ∃ cs, p = .agg cs := by
  cases p <;> simp_all [scal, isAgg]

/-! ### Struct and array literals -/
theorem fold_set (vs : List Value) : ∀ (off j0 : Nat) (cs : Array Value), off + j0 + vs.length ≤ cs.size →
    ((vs.zipIdx j0).foldl (fun cs (c, j) => cs.setIfInBounds (off + j) c) cs).size = cs.size ∧
    ∀ i, ((vs.zipIdx j0).foldl (fun cs (c, j) => cs.setIfInBounds (off + j) c) cs)[i]? = if off + j0 ≤ i ∧ i < off + j0 + vs.length then vs[i - (off + j0)]? else cs[i]? := by
  induction vs with
  | nil => intro off j0 cs _; exact ⟨rfl, fun i => by rw [if_neg (by simp)]; rfl⟩
  | cons v vs ih =>
    intro off j0 cs h
    simp only [List.length_cons] at h
    simp only [List.zipIdx_cons, List.foldl_cons]
    obtain ⟨h1, h2⟩ := ih off (j0 + 1) (cs.setIfInBounds (off + j0) v) (by simp; omega)
    refine ⟨by rw [h1]; simp, fun i => ?_⟩
    rw [h2]
    by_cases h3 : i = off + j0
    · subst h3
      rw [if_neg (by omega), if_pos (by simp)]
      have : off + j0 < cs.size := by omega
      simp [this]
    · by_cases h4 : off + j0 < i ∧ i < off + j0 + (vs.length + 1)
      · rw [if_pos (by omega), if_pos (by simp; omega)]
        have : i - (off + j0) = (i - (off + (j0 + 1))) + 1 := by omega
        rw [this, List.getElem?_cons_succ]
      · rw [if_neg (by omega), if_neg (by simp; omega), Array.getElem?_setIfInBounds_ne (by omega)]

theorem fill_run {K ι st} (place : Nat → Option (Nat × Nat)) : ∀ (ps : List (Nat × PV)) (vs : List (Nat × Value)) (cs : List PV) (us : Array Value) (out : List PV), fillF place ps cs = some out → ps.length = vs.length →
    (∀ (j : Nat) (p : Nat × PV) (v : Nat × Value), ps[j]? = some p → vs[j]? = some v → p.1 = v.1 ∧ VRel K ι st p.2 v.2) →
    cs.length = us.size → (∀ (j : Nat) (v : Value), us[j]? = some v → v.oneCell' = true) → (∀ (j : Nat) (p : PV) (v : Value), cs[j]? = some p → us[j]? = some v → VRel K ι st p v) →
    ∃ us', Instr.fill place us vs = some us' ∧ out.length = us'.size ∧ (∀ (j : Nat) (v : Value), us'[j]? = some v → v.oneCell' = true) ∧ ∀ (j : Nat) (p : PV) (v : Value), out[j]? = some p → us'[j]? = some v → VRel K ι st p v
  | [], [], cs, us, out, h, _, _, hl, h1, hr => by
    simp [fillF] at h
    subst h
    exact ⟨us, rfl, hl, h1, hr⟩
  | [], _ :: _, _, _, _, _, hl, _, _, _, _ => by simp at hl
  | _ :: _, [], _, _, _, _, hl, _, _, _, _ => by simp at hl
  | (i, p) :: ps, (i', v) :: vs, cs, us, out, h, hlen, hp, hl, h1, hr => by
    obtain ⟨hi, hpv⟩ := hp 0 (i, p) (i', v) rfl rfl
    simp only at hi hpv
    subst hi
    simp only [fillF] at h
    split at h
    · cases h
    · rename_i off size hpl
      split at h
      · rename_i hs
        have hs' := isAgg_spec hs
        obtain ⟨l1, o1, r1⟩ := hpv.cellsV hs'
        split at h
        · rename_i hfit
          have hsz : v.cells.size = size := by omega
          obtain ⟨f1, f2⟩ := fold_set v.cells.toList off 0 us (by simp; omega)
          have e1 : (v.cells.zipIdx.foldl (fun cs (c, j) => cs.setIfInBounds (off + j) c) us) = ((v.cells.toList.zipIdx 0).foldl (fun cs (c, j) => cs.setIfInBounds (off + j) c) us) := by
            rw [← Array.foldl_toList, Array.toList_zipIdx]
          have lsp : (splice cs off (cellsOf p)).length = cs.length := splice_length _ _ _ (by omega)
          obtain ⟨us', g1, g2⟩ := fill_run place ps vs (splice cs off (cellsOf p)) out h (by simpa using hlen) (fun j p v a b => hp (j + 1) p v (by simpa using a) (by simpa using b)) (us := (v.cells.toList.zipIdx 0).foldl (fun cs (c, j) => cs.setIfInBounds (off + j) c) us)
            (by rw [lsp, f1, hl]) (fun j u hj => by
              rw [f2] at hj
              split at hj
              · exact o1 u (List.mem_of_getElem? hj)
              · exact h1 j u hj) (fun j q u hq hu => by
              rw [f2] at hu
              rw [splice_get _ _ _ (by omega)] at hq
              simp only [Nat.add_zero, Array.length_toList] at hu
              split at hu
              · rename_i hc
                rw [if_pos (by omega)] at hq
                exact r1 _ q u hq hu
              · rename_i hc
                rw [if_neg (by omega)] at hq
                exact hr j q u hq hu)
          refine ⟨us', ?_, g2⟩
          simp only [Instr.fill, hpl]
          rw [if_neg (by simp; omega), e1]
          exact g1
        · cases h
      · cases h

theorem mapM_places {P : Program} {l : List Field} {w : World} (hs : ∀ f ∈ l, ∃ n, ∀ w, (sizeOf f.type).run P w = .ok n w) :
    ∃ out : List (Nat × Nat), (l.mapM fun f => (do pure (f.offset, ← sizeOf f.type) : Sem (Nat × Nat))).run P w = .ok out w ∧ out.length = l.length ∧ ∀ (j : Nat) (f : Field), l[j]? = some f → ∃ n, out[j]? = some (f.offset, n) ∧ ∀ w, (sizeOf f.type).run P w = .ok n w := by
  induction l with
  | nil => exact ⟨[], rfl, rfl, by simp⟩
  | cons f fs ih =>
    obtain ⟨n, hn⟩ := hs f (by simp)
    obtain ⟨out, h1, h2, h3⟩ := ih (fun g hg => hs g (by simp [hg]))
    refine ⟨(f.offset, n) :: out, ?_, by simp [h2], fun j g hj => ?_⟩
    · rw [List.mapM_cons]
      simp only [Sem.run_bind, hn, Result.andThen_ok, Sem.run_pure, h1]
    · match j, hj with
      | 0, hj => simp at hj; subst hj; exact ⟨n, rfl, hn⟩
      | j + 1, hj => simp at hj; exact h3 j g hj

theorem fillF_place {place place' : Nat → Option (Nat × Nat)} : ∀ (ps : List (Nat × PV)) (cs out : List PV), (∀ i x, place i = some x → place' i = some x) → fillF place ps cs = some out → fillF place' ps cs = some out
  | [], _, _, _, h => h
  | (i, p) :: ps, cs, out, hp, h => by
    simp only [fillF] at h ⊢
    split at h
    · cases h
    · rename_i off size e
      rw [hp _ _ e]
      simp only
      split at h
      · rename_i hs
        rw [if_pos hs]
        split at h
        · rename_i hf
          rw [if_pos hf]
          exact fillF_place ps _ out hp h
        · cases h
      · cases h

theorem gives_build {E : Env} (hE : EnvOk E) {K ι st w} (h : Rel E.G K ι st w) {t : TypeId} {ti : TI} (hT : E.T t = some ti) (ps : List (Nat × PV)) (vs : Array (Nat × Value)) (hl : ps.length = vs.size)
    (hp : ∀ (j : Nat) (p : Nat × PV) (v : Nat × Value), ps[j]? = some p → vs[j]? = some v → p.1 = v.1 ∧ VRel K ι st p.2 v.2) {out : List PV}
    (ho : (∃ fs, ti.kind = .strct fs ∧ (∀ f ∈ fs, (E.T f.2).isSome = true) ∧ fillF (fun i => (fs[i]?).bind fun f => (E.T f.2).map fun tf => (f.1, tf.size)) ps ti.zero = some out) ∨
      ∃ n e te, ti.kind = .array n e ∧ E.T e = some te ∧ fillF (fun i => some (i * te.size, te.size)) ps ti.zero = some out) :
    Gives E.G K ι st w ((Instr.build t vs).run E.P w) (.agg out) st := by
  obtain ⟨d, i, ty⟩ := hE.ty hT
  obtain ⟨z, hz, hs, hzl, hr, hag, _⟩ := ty.hz
  have zr : ∀ (j : Nat) (p : PV) (v : Value), ti.zero[j]? = some p → z.cells[j]? = some v → VRel K ι st p v := fun j p v a b => by
    obtain ⟨v', a1, a2, a3⟩ := hr K j p a
    rw [b] at a1; injection a1 with a1; subst a1; exact .tree _ _ a2
  have zo : ∀ (j : Nat) (v : Value), z.cells[j]? = some v → v.oneCell' = true := fun j v b => by
    have hlt : j < ti.zero.length := by rw [hzl, ← hs]; exact (Array.getElem?_eq_some_iff.1 b).1
    obtain ⟨v', a1, a2, a3⟩ := hr K j _ (List.getElem?_eq_getElem hlt)
    rw [b] at a1; injection a1 with a1; subst a1; exact a3
  rcases ho with ⟨fs, hk, hall, hf⟩ | ⟨n, e, te, hk, hTe, hf⟩
  · obtain ⟨l, hu, hlf⟩ := kind_strct ty hk
    obtain ⟨pl, m1, m2, m3⟩ := mapM_places (P := E.P) (l := l.toList) (w := w) (fun f hf => by
      have : (f.offset, f.type) ∈ fs := by rw [← hlf]; exact List.mem_map.2 ⟨f, hf, rfl⟩
      obtain ⟨tf, htf⟩ := Option.isSome_iff_exists.1 (hall _ this)
      obtain ⟨d', i', ty'⟩ := hE.ty htf
      exact ⟨tf.size, fun w => ty'.sizeOf w⟩)
    have hf' := fillF_place (place' := fun i : Nat => pl[i]?) ps _ _ (fun i x hx => by
      obtain ⟨f, a1, a2⟩ := Option.bind_eq_some_iff.1 hx
      obtain ⟨tf, a3, a4⟩ := Option.map_eq_some_iff.1 a2
      obtain ⟨g, b1, b2, b3⟩ := field_at hlf (show fs[i]? = some (f.1, f.2) from a1)
      obtain ⟨n, c1, c2⟩ := m3 i g (by simpa using b1)
      obtain ⟨d', i', ty'⟩ := hE.ty a3
      have := c2 w
      rw [b3, ty'.sizeOf w] at this
      injection this with this
      rw [c1, ← a4, b2, this]) hf
    obtain ⟨us', g1, g2, g3, g4⟩ := fill_run (K := K) (ι := ι) (st := st) (fun i : Nat => pl[i]?) ps vs.toList ti.zero z.cells out hf' (by simpa using hl) (fun j p v a b => hp j p v a (by simpa using b)) (by omega) zo zr
    have : (Instr.build t vs).run E.P w = .ok (.agg us') w := by
      have m1' : (l.mapM fun f => (do pure (f.offset, ← sizeOf f.type) : Sem (Nat × Nat))).run E.P w = .ok pl.toArray w := by
        rw [Array.mapM_eq_mapM_toList]
        simp only [Sem.run_map, m1, Result.andThen_ok]
      simp only [Instr.build, Sem.run_bind, ty.zeroV hz, Result.andThen_ok, run_underlying hu, m1']
      have e : (fun x : Nat => pl.toArray[x]?) = (fun x : Nat => pl[x]?) := by funext x; simp
      rw [e, g1]
      rfl
    rw [this]
    exact Gives.pure h (.agg _ _ g2 g3 g4)
  · have hu := kind_array ty hk
    obtain ⟨d', i', tye⟩ := hE.ty hTe
    obtain ⟨us', g1, g2, g3, g4⟩ := fill_run (K := K) (ι := ι) (st := st) _ ps vs.toList ti.zero z.cells out hf (by simpa using hl) (fun j p v a b => hp j p v a (by simpa using b)) (by omega) zo zr
    have : (Instr.build t vs).run E.P w = .ok (.agg us') w := by
      simp only [Instr.build, Sem.run_bind, ty.zeroV hz, Result.andThen_ok, run_underlying hu, tye.sizeOf w]
      rw [g1]
      rfl
    rw [this]
    exact Gives.pure h (.agg _ _ g2 g3 g4)

end Go.Pv
end
