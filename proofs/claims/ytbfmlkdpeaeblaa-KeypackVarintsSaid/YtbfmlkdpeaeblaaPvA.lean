/-
  The pure machine, part A: plain values, the store, and how they stand to the model's values and memory.
-/
import Derived.OrdersIn
import Derived.RangeFuncLeaves
import Derived.RangeFuncCalls
import Derived.Deep.AppendSrc
import Derived.Maps.AppendAt
import Derived.Deep.MidRow
import Derived.KernelRfl
set_option linter.all false
set_option linter.unusedSimpArgs false
set_option linter.unusedVariables false
namespace Go.Pv

/-- What is known of a shared slice's capacity: nothing; that it is the length; that the row is the call's own and may grow in place. -/
inductive Tok where
  | ro | full | own (i : Nat)

/-- A plain value. -/
inductive PV where
  | int (k : IntKind) (n : Int)
  | bool (b : Bool)
  | str (s : List UInt8)
  | sl (k : Nat) (es : List (List PV)) (t : Tok)
  | agg (cs : List PV)
  | tup (vs : List PV)
  | rptr (cs : List PV)
  | optr (id tot off : Nat)
  | osl (id tot off len k : Nat)
  | nilp
  | map (id : Nat)
  | nilmap
  | fn (f : FuncId) (caps : List PV)
  | yld (l : Nat)
  | nilfn
  | iface (t : TypeId) (v : PV)
  | nilif
  | bad

abbrev Fr := Nat → PV
def upd (fr : Fr) (d : Option Nat) (v : PV) : Fr := match d with | some t => fun u => if u = t then v else fr u | none => fr

/-- What may lie in the store. -/
inductive Ob where
  | cells (cs : List PV)
  | tok (n : Nat) (e : TypeId) (k : Nat)
  | map (es : List (PV × PV))
  | loop (fr : Fr) (ps : List Nat) (asg body : Code) (nt : Nat) (s : Nat) (pend : Option Code)

abbrev Store := List Ob

/-- What is known of memory that never changes any more. -/
abbrev Know := Addr → Option Value

def bytesV (s : List UInt8) : ByteArray := ⟨s.toArray⟩

/-- A plain value without references to the store, over known memory. -/
inductive TRel (K : Know) : PV → Value → Prop
  | int (k n) : TRel K (.int k n) (.int k n)
  | bool (b) : TRel K (.bool b) (.bool b)
  | str (s) : TRel K (.str s) (.string (bytesV s))
  | sl (k : Nat) (es : List (List PV)) (t : Tok) (A : Option Addr) (c b off : Nat) (f : Nat → Nat → Value)
      (hk : ∀ (j : Nat) (e : List PV), es[j]? = some e → e.length = k)
      (hA : es ≠ [] → A = some ⟨b, off, none⟩)
      (hK : ∀ (j i : Nat), j < es.length → i < k → K ⟨b, off + (j * k + i), none⟩ = some (f j i))
      (hv : ∀ (j i : Nat) (e : List PV) (p : PV), es[j]? = some e → e[i]? = some p → TRel K p (f j i))
      (h1 : ∀ (j i : Nat), (f j i).oneCell' = true)
      (hc : es.length ≤ c) (hm : c ≤ maxLen) (hn : A = none → c = 0)
      (ht : t = .ro ∨ (t = .full ∧ c = es.length)) : TRel K (.sl k es t) (.slice A es.length c)
  | agg (cs : List PV) (vs : Array Value) (hl : cs.length = vs.size)
      (h1 : ∀ (i : Nat) (v : Value), vs[i]? = some v → v.oneCell' = true)
      (h : ∀ (i : Nat) (p : PV) (v : Value), cs[i]? = some p → vs[i]? = some v → TRel K p v) : TRel K (.agg cs) (.agg vs)
  | tup (ps : List PV) (vs : Array Value) (hl : ps.length = vs.size)
      (h : ∀ (i : Nat) (p : PV) (v : Value), ps[i]? = some p → vs[i]? = some v → TRel K p v) : TRel K (.tup ps) (.tuple vs)
  | rptr (cs : List PV) (b off : Nat) (f : Nat → Value)
      (hK : ∀ i : Nat, i < cs.length → K ⟨b, off + i, none⟩ = some (f i)) (h1 : ∀ i : Nat, (f i).oneCell' = true)
      (h : ∀ (i : Nat) (p : PV), cs[i]? = some p → TRel K p (f i)) : TRel K (.rptr cs) (.pointer (some ⟨b, off, none⟩))
  | nilp : TRel K .nilp (.pointer none)
  | nilmap : TRel K .nilmap (.map none)
  | fn (f) : TRel K (.fn f []) (.func (.func f) #[] #[])
  | nilfn : TRel K .nilfn .nilFunc
  | nilif : TRel K .nilif .nilIface
  | iface (t p v) (h : TRel K p v) : TRel K (.iface t p) (.iface t v)
  | bad (v) : TRel K .bad v

theorem TRel.mono {K K' : Know} (hK : ∀ a v, K a = some v → K' a = some v) {p : PV} {v : Value} (h : TRel K p v) : TRel K' p v := by
  induction h with
  | int k n => exact .int k n
  | bool b => exact .bool b
  | str s => exact .str s
  | sl k es t A c b off f hk hA hK' hv h1 hc hm hn ht ih =>
    exact .sl k es t A c b off f hk hA (fun j i hj hi => hK _ _ (hK' j i hj hi)) (fun j i e p he hp => ih j i e p he hp) h1 hc hm hn ht
  | agg cs vs hl h1 _ ih => exact .agg cs vs hl h1 ih
  | tup ps vs hl _ ih => exact .tup ps vs hl ih
  | rptr cs b off f hK' h1 _ ih => exact .rptr cs b off f (fun i hi => hK _ _ (hK' i hi)) h1 ih
  | nilp => exact .nilp
  | nilmap => exact .nilmap
  | fn f => exact .fn f
  | nilfn => exact .nilfn
  | nilif => exact .nilif
  | iface t p v _ ih => exact .iface t p v ih
  | bad v => exact .bad v

/-- The block of a handle. -/
def hblk : Value → Option Nat
  | .pointer (some a) => some a.block
  | .slice (some a) _ _ => some a.block
  | .map (some r) => some r
  | _ => none

/-- A plain value, with references: to the store's objects, whose handles are 'ι'. -/
inductive VRel (K : Know) (ι : Nat → Value) (st : Store) : PV → Value → Prop
  | tree (p v) (h : TRel K p v) : VRel K ι st p v
  | own (k : Nat) (es : List (List PV)) (i : Nat) (A : Option Addr) (c m : Nat) (e : TypeId) (h : TRel K (.sl k es .ro) (.slice A es.length c))
      (hst : st[i]? = some (.tok m e k)) (hle : es.length ≤ m) (heq : es.length = m → ι i = .slice A es.length c) : VRel K ι st (.sl k es (.own i)) (.slice A es.length c)
  | agg (cs : List PV) (vs : Array Value) (hl : cs.length = vs.size)
      (h1 : ∀ (i : Nat) (v : Value), vs[i]? = some v → v.oneCell' = true)
      (h : ∀ (i : Nat) (p : PV) (v : Value), cs[i]? = some p → vs[i]? = some v → VRel K ι st p v) : VRel K ι st (.agg cs) (.agg vs)
  | tup (ps : List PV) (vs : Array Value) (hl : ps.length = vs.size)
      (h : ∀ (i : Nat) (p : PV) (v : Value), ps[i]? = some p → vs[i]? = some v → VRel K ι st p v) : VRel K ι st (.tup ps) (.tuple vs)
  | optr (id tot off : Nat) (a : Addr) (cs : List PV) (hst : st[id]? = some (.cells cs)) (hle : tot ≤ cs.length)
      (heq : tot = cs.length → ∃ b s, ι id = .slice (some ⟨b, 0, none⟩) 0 s ∧ a = ⟨b, off, none⟩) : VRel K ι st (.optr id tot off) (.pointer (some a))
  | osl (id tot off len k : Nat) (A : Option Addr) (c : Nat) (cs : List PV) (hst : st[id]? = some (.cells cs)) (hle : tot ≤ cs.length) (hlc : len ≤ c)
      (hn : (A = none → c = 0) ∧ c ≤ maxLen)
      (heq : tot = cs.length → ∃ b s, ι id = .slice (some ⟨b, 0, none⟩) 0 s ∧ (c ≠ 0 → A = some ⟨b, off, none⟩) ∧ off + len * k ≤ tot ∧ off + c * k ≤ s) :
      VRel K ι st (.osl id tot off len k) (.slice A len c)
  | map (id : Nat) (es : List (PV × PV)) (b : Nat) (hst : st[id]? = some (.map es)) (hb : ι id = .map (some b)) : VRel K ι st (.map id) (.map (some b))
  | fn (f : FuncId) (caps : List PV) (vs : Array Value) (hl : caps.length = vs.size)
      (h : ∀ (i : Nat) (p : PV) (v : Value), caps[i]? = some p → vs[i]? = some v → VRel K ι st p v) : VRel K ι st (.fn f caps) (.func (.func f) #[] vs)
  | yld (l b : Nat) (fr ps asg body nt r pd) (hst : st[l]? = some (.loop fr ps asg body nt r pd)) (hb : ι l = .pointer (some ⟨b, 0, none⟩)) :
      VRel K ι st (.yld l) (.func (.yield b) #[] #[])

/-- How an object may turn. -/
def Ob.le : Ob → Ob → Value → Value → Prop
  | .cells cs, .cells cs', v, v' => cs.length ≤ cs'.length ∧ (cs.length = cs'.length → v = v')
  | .tok n e k, .tok n' e' k', v, v' => e = e' ∧ k = k' ∧ n ≤ n' ∧ (n = n' → v = v')
  | .map _, .map _, v, v' => v = v'
  | .loop .., .loop .., v, v' => v = v'
  | _, _, _, _ => False

theorem Ob.le_refl (o : Ob) (v : Value) : Ob.le o o v v := by cases o <;> simp [Ob.le]
theorem Ob.le_trans {o o' o'' : Ob} {v v' v'' : Value} (h : Ob.le o o' v v') (h' : Ob.le o' o'' v' v'') : Ob.le o o'' v v'' := by
  cases o <;> cases o' <;> simp [Ob.le] at h <;> cases o'' <;> simp [Ob.le] at h' ⊢
  · exact ⟨Nat.le_trans h.1 h'.1, fun e => (h.2 (by omega)).trans (h'.2 (by omega))⟩
  · exact ⟨h.1.trans h'.1, h.2.1.trans h'.2.1, Nat.le_trans h.2.2.1 h'.2.2.1, fun e => (h.2.2.2 (by omega)).trans (h'.2.2.2 (by omega))⟩
  · exact h.trans h'
  · exact h.trans h'

structure Ext (K : Know) (ι : Nat → Value) (st : Store) (K' : Know) (ι' : Nat → Value) (st' : Store) : Prop where
  know : ∀ a v, K a = some v → K' a = some v
  len : st.length ≤ st'.length
  ids : ∀ id o, st[id]? = some o → ∃ o', st'[id]? = some o' ∧ Ob.le o o' (ι id) (ι' id)

theorem Ext.refl (K ι st) : Ext K ι st K ι st := ⟨fun _ _ h => h, Nat.le_refl _, fun _ o h => ⟨o, h, Ob.le_refl _ _⟩⟩
theorem Ext.trans {K ι st K1 ι1 st1 K2 ι2 st2} (h : Ext K ι st K1 ι1 st1) (h' : Ext K1 ι1 st1 K2 ι2 st2) : Ext K ι st K2 ι2 st2 :=
  ⟨fun a v e => h'.know a v (h.know a v e), Nat.le_trans h.len h'.len, fun id o e => by
    obtain ⟨o1, e1, l1⟩ := h.ids id o e
    obtain ⟨o2, e2, l2⟩ := h'.ids id o1 e1
    exact ⟨o2, e2, Ob.le_trans l1 l2⟩⟩

theorem VRel.mono {K ι st K' ι' st'} (x : Ext K ι st K' ι' st') {p : PV} {v : Value} (h : VRel K ι st p v) : VRel K' ι' st' p v := by
  induction h with
  | tree p v h => exact .tree p v (h.mono x.know)
  | own k es i A c m e h hst hle heq =>
    obtain ⟨o', e', l⟩ := x.ids i _ hst
    cases o' <;> simp [Ob.le] at l
    rename_i m' te k'
    obtain ⟨rfl, rfl, l1, l2⟩ := l
    exact .own k es i A c m' e (h.mono x.know) e' (by omega) (fun q => by rw [← heq (by omega), l2 (by omega)])
  | agg cs vs hl h1 _ ih => exact .agg cs vs hl h1 ih
  | tup ps vs hl _ ih => exact .tup ps vs hl ih
  | optr id tot off a cs hst hle heq =>
    obtain ⟨o', e', l⟩ := x.ids id _ hst
    cases o' <;> simp [Ob.le] at l
    rename_i cs'
    exact .optr id tot off a cs' e' (by omega) (fun q => by rw [← l.2 (by omega)]; exact heq (by omega))
  | osl id tot off len k A c cs hst hle hlc hn heq =>
    obtain ⟨o', e', l⟩ := x.ids id _ hst
    cases o' <;> simp [Ob.le] at l
    rename_i cs'
    exact .osl id tot off len k A c cs' e' (by omega) hlc hn (fun q => by rw [← l.2 (by omega)]; exact heq (by omega))
  | map id es b hst hb =>
    obtain ⟨o', e', l⟩ := x.ids id _ hst
    cases o' <;> simp [Ob.le] at l
    exact .map id _ b e' (by rw [← l, hb])
  | fn f caps vs hl _ ih => exact .fn f caps vs hl ih
  | yld l b fr ps asg body nt r pd hst hb =>
    obtain ⟨o', e', q⟩ := x.ids l _ hst
    cases o' <;> simp [Ob.le] at q
    exact .yld l b _ _ _ _ _ _ _ e' (by rw [← q, hb])

/-- What the store tells of a loop's record (0: it is ready; 1: it is done; 2: nothing of its state; 3: nothing at all). -/
def loopIs (K : Know) (ι : Nat → Value) (st : Store) (fr : Fr) (ps : List Nat) (asg body : Code) (nt : Nat) (s : Nat) (pend : Option Code) (l : Loop) : Prop :=
  s < 3 → (l.assign = asg ∧ l.body = body ∧ l.params.toList = ps ∧ l.tmps.size = nt ∧ ∀ (t : Nat) (v : Value), l.tmps[t]? = some v → VRel K ι st (fr t) v) ∧
    (s < 2 → l.pending = pend) ∧ (s = 0 → l.state = .ready) ∧ (s = 1 → l.state = .done)

/-- An object in memory. -/
def ObRel (K : Know) (ι : Nat → Value) (st : Store) (w : World) (h : Value) : Ob → Prop
  | .cells cs => ∃ b arr e, h = .slice (some ⟨b, 0, none⟩) 0 arr.size ∧ w.heap[b]? = some (.cells arr e (0, 0)) ∧ cs.length ≤ arr.size ∧
      (∀ (i : Nat) (p : PV), cs[i]? = some p → ∃ v : Value, arr[i]? = some v ∧ VRel K ι st p v ∧ v.oneCell' = true) ∧ ∀ j : Nat, K ⟨b, j, none⟩ = none
  | .tok n e k => ∃ b cap arr, h = .slice (some ⟨b, 0, none⟩) n cap ∧ w.heap[b]? = some (.cells arr e (0, 0)) ∧ arr.size = cap * k ∧ n ≤ cap ∧ cap ≤ maxLen ∧ 0 < k ∧
      (∀ j : Nat, n * k ≤ j → K ⟨b, j, none⟩ = none)
  | .map es => ∃ b ents clock, h = .map (some b) ∧ w.heap[b]? = some (.map ents clock) ∧ ents.size = es.length ∧
      (∀ (i : Nat) (kp vp : PV), es[i]? = some (kp, vp) → ∃ en : MapEntry, ents[i]? = some en ∧ VRel K ι st kp en.key ∧ VRel K ι st vp en.val) ∧
      (∀ (i j : Nat) (x y : MapEntry), ents[i]? = some x → ents[j]? = some y → x.born = y.born → i = j) ∧ ∀ (i : Nat) (x : MapEntry), ents[i]? = some x → x.born < clock
  | .loop fr ps asg body nt r pd => ∃ b l, h = .pointer (some ⟨b, 0, none⟩) ∧ w.heap[b]? = some (.loop l) ∧ loopIs K ι st fr ps asg body nt r pd l

/-- The whole: known memory is as known; the globals; each object; no two objects in one block. -/
structure Rel (G : Nat → PV) (K : Know) (ι : Nat → Value) (st : Store) (w : World) : Prop where
  know : ∀ a v, K a = some v → w.cell? a = some v
  glob : ∀ g, TRel K (G g) (.pointer (some ⟨g, 0, none⟩))
  obj : ∀ id o, st[id]? = some o → ObRel K ι st w (ι id) o
  apart : ∀ i j b, i < st.length → j < st.length → hblk (ι i) = some b → hblk (ι j) = some b → i = j

/-- Which blocks the store has. -/
def Owned (ι : Nat → Value) (st : Store) (b : Nat) : Prop := ∃ id, id < st.length ∧ hblk (ι id) = some b

/-- A step: from one state to a later one. -/
structure Stp (G : Nat → PV) (K : Know) (ι : Nat → Value) (st : Store) (w : World) (K' : Know) (ι' : Nat → Value) (st' : Store) (w' : World) : Prop where
  rel : Rel G K' ι' st' w'
  ext : Ext K ι st K' ι' st'
  os : w'.os = w.os
  tape : w'.tape = w.tape
  output : w'.output = w.output
  size : w.heap.size ≤ w'.heap.size
  block : ∀ b, b < w.heap.size → ¬ Owned ι st b → w'.heap[b]? = w.heap[b]?
  owns : ∀ b, Owned ι' st' b → b < w.heap.size → Owned ι st b
  fresh : ∀ a v, K' a = some v → K a = some v ∨ w.heap.size ≤ a.block ∨ Owned ι st a.block

theorem Stp.refl {G K ι st w} (h : Rel G K ι st w) : Stp G K ι st w K ι st w :=
  ⟨h, Ext.refl _ _ _, rfl, rfl, rfl, Nat.le_refl _, fun _ _ _ => rfl, fun _ h _ => h, fun _ _ h => .inl h⟩
theorem Stp.trans {G K ι st w K1 ι1 st1 w1 K2 ι2 st2 w2} (h : Stp G K ι st w K1 ι1 st1 w1) (h' : Stp G K1 ι1 st1 w1 K2 ι2 st2 w2) : Stp G K ι st w K2 ι2 st2 w2 :=
  ⟨h'.rel, h.ext.trans h'.ext, h'.os.trans h.os, h'.tape.trans h.tape, h'.output.trans h.output, Nat.le_trans h.size h'.size,
   fun b hb hn => (h'.block b (Nat.lt_of_lt_of_le hb h.size) (fun q => hn (h.owns b q hb))).trans (h.block b hb hn),
   fun b hb hl => h.owns b (h'.owns b hb (Nat.lt_of_lt_of_le hl h.size)) hl,
   fun a v e => by
     rcases h'.fresh a v e with q | q | q
     · exact h.fresh a v q
     · exact .inr (.inl (Nat.le_trans h.size q))
     · by_cases hl : a.block < w.heap.size
       · exact .inr (.inr (h.owns _ q hl))
       · exact .inr (.inl (by omega))⟩

/-- The count of draws is nothing that is looked at. -/
theorem ObRel.drew {K ι st w h o} (q : ObRel K ι st w h o) : ObRel K ι st w.drew h o := by cases o <;> exact q
theorem Rel.drew {G K ι st w} (h : Rel G K ι st w) : Rel G K ι st w.drew :=
  ⟨fun a v e => by rw [World.cell?_drew]; exact h.know a v e, h.glob, fun id o e => (h.obj id o e).drew, h.apart⟩
theorem Stp.drew {G K ι st w} (h : Rel G K ι st w) : Stp G K ι st w K ι st w.drew :=
  ⟨h.drew, Ext.refl _ _ _, rfl, rfl, rfl, Nat.le_refl _, fun _ _ _ => rfl, fun _ h _ => h, fun _ _ h => .inl h⟩

theorem Rel.owned_lt {G K ι st w} (h : Rel G K ι st w) {b : Nat} (hb : Owned ι st b) : b < w.heap.size := by
  obtain ⟨id, hid, he⟩ := hb
  have hs : st[id]? = some st[id] := List.getElem?_eq_getElem hid
  have q := h.obj id _ hs
  have lt : ∀ {r : Nat} {o : Go.Obj}, w.heap[r]? = some o → r < w.heap.size := fun e => (Array.getElem?_eq_some_iff.1 e).1
  cases ho : st[id] <;> rw [ho] at q
  · obtain ⟨b', arr, e, hh, hw, _⟩ := q
    rw [hh] at he; simp [hblk] at he; subst he; exact lt hw
  · obtain ⟨b', cap, arr, hh, hw, _⟩ := q
    rw [hh] at he; simp [hblk] at he; subst he; exact lt hw
  · obtain ⟨b', ents, clock, hh, hw, _⟩ := q
    rw [hh] at he; simp [hblk] at he; subst he; exact lt hw
  · obtain ⟨b', l, hh, hw, _⟩ := q
    rw [hh] at he; simp [hblk] at he; subst he; exact lt hw

theorem Rel.know_lt {G K ι st w} (h : Rel G K ι st w) {a : Addr} {v : Value} (e : K a = some v) : a.block < w.heap.size := World.block_lt_of_cell? w a (h.know a v e)

/-- An object's rest in memory is carried to a world in which its block lies unturned, what it holds being carried too. -/
theorem ObRel.carry {K ι st w K' ι' st' w'} {h : Value} {o : Ob} (q : ObRel K ι st w h o) (x : Ext K ι st K' ι' st')
    (hb : ∀ b, hblk h = some b → w'.heap[b]? = w.heap[b]?) (hk : ∀ b, hblk h = some b → ∀ j, K ⟨b, j, none⟩ = none → K' ⟨b, j, none⟩ = none) : ObRel K' ι' st' w' h o := by
  cases o with
  | cells cs =>
    obtain ⟨b, arr, e, hh, hw, hl, hc, hn⟩ := q
    have hb' := hb b (by rw [hh]; rfl)
    exact ⟨b, arr, e, hh, by rw [hb']; exact hw, hl, fun i p hp => let ⟨v, h1, h2, h3⟩ := hc i p hp; ⟨v, h1, h2.mono x, h3⟩, fun j => hk b (by rw [hh]; rfl) j (hn j)⟩
  | tok n e k =>
    obtain ⟨b, cap, arr, hh, hw, h1, h2, h3, h4, h5⟩ := q
    have hb' := hb b (by rw [hh]; rfl)
    exact ⟨b, cap, arr, hh, by rw [hb']; exact hw, h1, h2, h3, h4, fun j hj => hk b (by rw [hh]; rfl) j (h5 j hj)⟩
  | map es =>
    obtain ⟨b, ents, clock, hh, hw, h1, h2, h3⟩ := q
    have hb' := hb b (by rw [hh]; rfl)
    exact ⟨b, ents, clock, hh, by rw [hb']; exact hw, h1, fun i kp vp hp => let ⟨en, a1, a2, a3⟩ := h2 i kp vp hp; ⟨en, a1, a2.mono x, a3.mono x⟩, h3⟩
  | loop fr ps asg body nt r pd =>
    obtain ⟨b, l, hh, hw, h1⟩ := q
    have hb' := hb b (by rw [hh]; rfl)
    exact ⟨b, l, hh, by rw [hb']; exact hw, fun hs => let ⟨⟨h1, h2, h3, h4, h5⟩, h6⟩ := h1 hs; ⟨⟨h1, h2, h3, h4, fun t v ht => (h5 t v ht).mono x⟩, h6⟩⟩

theorem hblk_ob {K ι st w h o} (q : ObRel K ι st w h o) : ∃ b, hblk h = some b := by
  cases o with
  | cells cs => obtain ⟨b, arr, e, hh, _⟩ := q; exact ⟨b, by rw [hh]; rfl⟩
  | tok n e k => obtain ⟨b, cap, arr, hh, _⟩ := q; exact ⟨b, by rw [hh]; rfl⟩
  | map es => obtain ⟨b, ents, clock, hh, _⟩ := q; exact ⟨b, by rw [hh]; rfl⟩
  | loop fr ps asg body nt r pd => obtain ⟨b, l, hh, _⟩ := q; exact ⟨b, by rw [hh]; rfl⟩

end Go.Pv
