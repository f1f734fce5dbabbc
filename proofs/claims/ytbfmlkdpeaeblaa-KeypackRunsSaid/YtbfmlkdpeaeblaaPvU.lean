/-
  The pure machine, part U: code.
-/
import Derived.Test.YtbfmlkdpeaeblaaPvT
set_option linter.all false
set_option linter.unusedSimpArgs false
set_option linter.unusedVariables false
namespace Go.Pv

def LoopW (B : Fr → Store → (Exit → Fr → Store → Prop) → Prop) (Q : Exit → Fr → Store → Prop) : Nat → Fr → Store → Prop
  | 0, _, _ => False
  | n + 1, fr, st => B fr st fun e fr' st' => match e with
    | .normal => LoopW B Q n fr' st'
    | e => Q e fr' st'

def deadLoop : Ob := .loop (fun _ => .bad) [] .skip .skip 0 3 none

/-- A range over a function: the function is called with the loop's yield; what the rounds do is what their contract says. -/
def RangeW (E : Env) (N : Nat) (g : Operand) (ps : List Nat) (asg body : Code) (fr : Fr) (st : Store) (Q : Exit → Fr → Store → Prop) : Prop :=
  match evalO E fr g with
  | .fn f caps => ∃ v st1, Spec E f (.yld st.length :: caps) (st ++ [.loop fr ps asg body N 0 none]) v st1 ∧
    ∃ fr1 ps1 asg1 body1 nt1 s pd, st1[st.length]? = some (.loop fr1 ps1 asg1 body1 nt1 s pd) ∧ s < 2 ∧
      match pd with
      | none => Q .normal fr (st1.set st.length deadLoop)
      | some .ret => Q .ret fr (st1.set st.length deadLoop)
      | some (.exit i) => Q (.exit i) fr (st1.set st.length deadLoop)
      | _ => False
  | _ => False

/-- **What code comes to**, on plain values. -/
def W (E : Env) (N : Nat) : Code → Fr → Store → (Exit → Fr → Store → Prop) → Prop
  | .skip, fr, st, Q => Q .normal fr st
  | .region _ ops _, fr, st, Q => OpsW E ops ops.toList fr st (Q .normal)
  | .seq a b, fr, st, Q => W E N a fr st fun e fr' st' => match e with
    | .normal => W E N b fr' st' Q
    | e => Q e fr' st'
  | .cond c x y, fr, st, Q => match evalO E fr c with
    | .bool b => Br b (W E N x fr st Q) (W E N y fr st Q)
    | _ => False
  | .block id b, fr, st, Q => W E N b fr st fun e fr' st' => match e with
    | .exit i => if i = id then Q .normal fr' st' else Q (.exit i) fr' st'
    | e => Q e fr' st'
  | .loop b, fr, st, Q => ∃ n, LoopW (fun fr st Q => W E N b fr st Q) Q n fr st
  | .exit i, fr, st, Q => Q (.exit i) fr st
  | .label _, fr, st, Q => Q .normal fr st
  | .ret, fr, st, Q => Q .ret fr st
  | .rangeFunc g ps asg body, fr, st, Q => RangeW E N g ps.toList asg body fr st Q
  | _, _, _, _ => False

theorem LoopW.mono {B : Fr → Store → (Exit → Fr → Store → Prop) → Prop} (hB : ∀ (Q Q' : Exit → Fr → Store → Prop), (∀ e fr st, Q e fr st → Q' e fr st) → ∀ fr st, B fr st Q → B fr st Q') {Q Q' : Exit → Fr → Store → Prop} (h : ∀ e fr st, Q e fr st → Q' e fr st) :
    ∀ n fr st, LoopW B Q n fr st → LoopW B Q' n fr st
  | 0, _, _, q => q
  | n + 1, fr, st, q => hB _ _ (fun e fr st r => by
      cases e <;> first | exact LoopW.mono hB h n _ _ r | exact h _ _ _ r) fr st q

theorem W.mono {E : Env} {N : Nat} : ∀ (c : Code) (Q Q' : Exit → Fr → Store → Prop), (∀ e fr st, Q e fr st → Q' e fr st) → ∀ fr st, W E N c fr st Q → W E N c fr st Q'
  | .skip, _, _, h, fr, st, q => h _ _ _ q
  | .region _ ops _, _, _, h, fr, st, q => OpsW.mono (fun _ _ r => h _ _ _ r) _ _ _ q
  | .seq a b, _, _, h, fr, st, q => W.mono a _ _ (fun e fr st r => by
      cases e <;> first | exact W.mono b _ _ h _ _ r | exact h _ _ _ r) fr st q
  | .cond c x y, _, _, h, fr, st, q => by
    unfold W at q ⊢
    split at q
    · exact Br.mk (fun e => W.mono x _ _ h _ _ (q.1 e)) (fun e => W.mono y _ _ h _ _ (q.2 e))
    · exact q.elim
  | .block id b, _, _, h, fr, st, q => W.mono b _ _ (fun e fr st r => by
      cases e <;> simp only at r ⊢ <;> first | exact h _ _ _ r | skip
      split at r
      · rename_i e; rw [if_pos e]; exact h _ _ _ r
      · rename_i e; rw [if_neg e]; exact h _ _ _ r) fr st q
  | .loop b, _, _, h, fr, st, q => let ⟨n, q⟩ := q; ⟨n, LoopW.mono (fun Q Q' h fr st r => W.mono b Q Q' h fr st r) h n fr st q⟩
  | .exit _, _, _, h, fr, st, q => h _ _ _ q
  | .label _, _, _, h, fr, st, q => h _ _ _ q
  | .ret, _, _, h, fr, st, q => h _ _ _ q
  | .rangeFunc g ps asg body, _, _, h, fr, st, q => by
    unfold W RangeW at q ⊢
    split at q
    · obtain ⟨v, st1, a1, fr1, ps1, asg1, body1, nt1, s, pd, a2, a3, a4⟩ := q
      refine ⟨v, st1, a1, fr1, ps1, asg1, body1, nt1, s, pd, a2, a3, ?_⟩
      split at a4
      · exact h _ _ _ a4
      · exact h _ _ _ a4
      · exact h _ _ _ a4
      · exact a4.elim
    · exact q.elim
  | .goto _, _, _, _, _, _, q => q.elim
  | .scope _, _, _, _, _, _, q => q.elim
  | .refuse _, _, _, _, _, _, q => q.elim

/-- What is looked at beforehand: operands and destinations within the frame; the regions that draw; ranges over functions only where they may stand. -/
def okC (pl : FuncId → Bool) (N : Nat) (rf : Bool) : Code → Bool
  | .region _ ops draw => regIn N ops && (!draw || drawOk pl ops (Region.before ops).toList)
  | .seq a b => okC pl N rf a && okC pl N rf b
  | .cond c x y => opdIn N c && (okC pl N rf x && okC pl N rf y)
  | .block _ b => okC pl N rf b
  | .loop b => okC pl N rf b
  | .rangeFunc g ps asg body => rf && (opdIn N g && (ps.all (decide <| · < N) && (okC pl N false asg && okC pl N false body)))
  | _ => true

/-- The marks among a frame's deferred calls: each for a block of its own, still open. -/
def Dfs (b0 : Nat) (w : World) (ds : List Deferred) : Prop :=
  ∃ rs : List Nat, ds = rs.map (fun r => { target := .collected r, args := #[] }) ∧ rs.Nodup ∧ ∀ r ∈ rs, b0 ≤ r ∧ w.heap[r]? = some (.deferred (some []))

theorem not_owned_deferred {G K ι st w} (h : Rel G K ι st w) {r : Nat} {x} (hr : w.heap[r]? = some (.deferred x)) : ¬ Owned ι st r := by
  rintro ⟨id, hid, hb⟩
  have q := h.obj id _ (List.getElem?_eq_getElem hid)
  cases ho : st[id] <;> rw [ho] at q
  · obtain ⟨b, arr, e, hh, hw, _⟩ := q
    rw [hh] at hb; cases hb; rw [hw] at hr; cases hr
  · obtain ⟨b, cap, arr, hh, hw, _⟩ := q
    rw [hh] at hb; cases hb; rw [hw] at hr; cases hr
  · obtain ⟨b, ents, clock, hh, hw, _⟩ := q
    rw [hh] at hb; cases hb; rw [hw] at hr; cases hr
  · obtain ⟨b, l, hh, hw, _⟩ := q
    rw [hh] at hb; cases hb; rw [hw] at hr; cases hr

theorem Dfs.step {G K ι st w K' ι' st' w'} (h : Rel G K ι st w) (s : Stp G K ι st w K' ι' st' w') {b0 : Nat} {ds : List Deferred} (d : Dfs b0 w ds) : Dfs b0 w' ds := by
  obtain ⟨rs, e, nd, hr⟩ := d
  refine ⟨rs, e, nd, fun r hm => ⟨(hr r hm).1, ?_⟩⟩
  rw [s.block r (heap_lt (hr r hm).2) (not_owned_deferred h (hr r hm).2)]
  exact (hr r hm).2

/-- An object of no account is laid in memory. -/
theorem Stp.allocOther {G K ι st w} (h : Rel G K ι st w) (go : Go.Obj) : Stp G K ι st w K ι st (w.alloc go) := by
  have x : Ext K ι st K ι st := .refl _ _ _
  refine ⟨⟨fun a v e => ?_, h.glob, fun id o e => ?_, h.apart⟩, x, rfl, rfl, rfl, by simp, fun b hlt _ => heap_alloc_old w go b hlt, fun b hb _ => hb, fun a v e => .inl e⟩
  · rw [World.cell?_alloc_lt w go a (h.know_lt e)]; exact h.know a v e
  · have hid := (List.getElem?_eq_some_iff.1 e).1
    exact (h.obj id o e).carry x (fun b hb => heap_alloc_old w go b (h.owned_lt ⟨id, hid, hb⟩)) (fun _ _ _ q => q)

end Go.Pv
