/-
  The pure machine, part Ev: a run of closed code, by reckoning.
-/
import Derived.Test.YtgbaaobgnpjhcaaGreatDoorPvWb
import Derived.Lib.ItoaNum
import Derived.Test.YtgbaaobgnpjhcaaGreatDoorChecked
set_option linter.all false
set_option linter.unusedSimpArgs false
set_option linter.unusedVariables false
section
namespace Go.Pv

/-- A frame that is quick to read. -/
inductive FT where
  | nil
  | node (v : PV) (l r : FT)
def FT.get : FT → Nat → PV
  | .nil, _ => .tup []
  | .node v l r, k => bif Nat.beq k 0 then v else bif Nat.beq (k % 2) 1 then l.get (k / 2) else r.get (k / 2 - 1)
def FT.set : Nat → FT → Nat → PV → Option FT
  | 0, _, _, _ => none
  | f + 1, .nil, k, x => bif Nat.beq k 0 then some (.node x .nil .nil) else bif Nat.beq (k % 2) 1 then (match FT.set f .nil (k / 2) x with | some l => some (.node (.tup []) l .nil) | none => none) else (match FT.set f .nil (k / 2 - 1) x with | some r => some (.node (.tup []) .nil r) | none => none)
  | f + 1, .node v l r, k, x => bif Nat.beq k 0 then some (.node x l r) else bif Nat.beq (k % 2) 1 then (match FT.set f l (k / 2) x with | some l => some (.node v l r) | none => none) else (match FT.set f r (k / 2 - 1) x with | some r => some (.node v l r) | none => none)

theorem FT.get_set : ∀ (f : Nat) (t : FT) (k : Nat) (x : PV) (t' : FT), FT.set f t k x = some t' → ∀ u, t'.get u = if u = k then x else t.get u
  | 0, _, _, _, _, h => by cases h
  | f + 1, t, k, x, t', h => by
    intro u
    have key : ∀ (v : PV) (l r : FT), (bif Nat.beq k 0 then some (.node x l r) else bif Nat.beq (k % 2) 1 then (match FT.set f l (k / 2) x with | some l => some (.node v l r) | none => none) else (match FT.set f r (k / 2 - 1) x with | some r => some (.node v l r) | none => none)) = some t' → t'.get u = if u = k then x else (FT.node v l r).get u := by
      intro v l r h
      by_cases k0 : k = 0
      · subst k0
        simp at h
        subst h
        by_cases u0 : u = 0
        · subst u0; simp [FT.get]
        · have e : Nat.beq u 0 = false := by rw [← Bool.not_eq_true, Nat.beq_eq]; exact u0
          simp [FT.get, e, u0]
      · have e0 : Nat.beq k 0 = false := by rw [← Bool.not_eq_true, Nat.beq_eq]; exact k0
        by_cases k1 : k % 2 = 1
        · have e1 : Nat.beq (k % 2) 1 = true := by rw [Nat.beq_eq]; exact k1
          rw [e0, e1, cond_false, cond_true] at h
          split at h
          · rename_i l' hl
            cases h
            have ih := FT.get_set f l (k / 2) x l' hl
            by_cases u0 : u = 0
            · subst u0; rw [if_neg (by omega)]; simp [FT.get]
            · have d0 : Nat.beq u 0 = false := by rw [← Bool.not_eq_true, Nat.beq_eq]; exact u0
              by_cases u1 : u % 2 = 1
              · have d1 : Nat.beq (u % 2) 1 = true := by rw [Nat.beq_eq]; exact u1
                simp only [FT.get, d0, d1, cond_false, cond_true, ih]
                by_cases q : u = k
                · subst q; simp
                · rw [if_neg q, if_neg (by omega)]
              · have d1 : Nat.beq (u % 2) 1 = false := by rw [← Bool.not_eq_true, Nat.beq_eq]; exact u1
                simp only [FT.get, d0, d1, cond_false]
                rw [if_neg (by omega)]
          · cases h
        · have e1 : Nat.beq (k % 2) 1 = false := by rw [← Bool.not_eq_true, Nat.beq_eq]; exact k1
          rw [e0, e1, cond_false, cond_false] at h
          split at h
          · rename_i r' hr
            cases h
            have ih := FT.get_set f r (k / 2 - 1) x r' hr
            by_cases u0 : u = 0
            · subst u0; rw [if_neg (by omega)]; simp [FT.get]
            · have d0 : Nat.beq u 0 = false := by rw [← Bool.not_eq_true, Nat.beq_eq]; exact u0
              by_cases u1 : u % 2 = 1
              · have d1 : Nat.beq (u % 2) 1 = true := by rw [Nat.beq_eq]; exact u1
                simp only [FT.get, d0, d1, cond_false, cond_true]
                rw [if_neg (by omega)]
              · have d1 : Nat.beq (u % 2) 1 = false := by rw [← Bool.not_eq_true, Nat.beq_eq]; exact u1
                simp only [FT.get, d0, d1, cond_false, ih]
                by_cases q : u = k
                · subst q; simp
                · rw [if_neg q, if_neg (by omega)]
          · cases h
    cases t with
    | nil =>
      have := key (.tup []) .nil .nil (by rw [← h]; rfl)
      rw [this]
      have n : ∀ w, (FT.node (.tup []) .nil .nil).get w = (FT.nil).get w := by
        intro w
        simp only [FT.get]
        cases Nat.beq w 0 <;> cases Nat.beq (w % 2) 1 <;> rfl
      rw [n]
    | node v l r => exact key v l r (by rw [← h]; rfl)

/-- A frame after an operation. -/
def FT.upd (t : FT) (d : Option Nat) (v : PV) : Option FT := match d with | some k => FT.set 24 t k v | none => some t
theorem FT.upd_get {t t' : FT} {d : Option Nat} {v : PV} (h : t.upd d v = some t') : t'.get = Pv.upd t.get d v := by
  cases d with
  | none => cases h; rfl
  | some k => funext u; exact FT.get_set 24 t k v t' h u
def FT.args : Nat → List PV → FT → Option FT
  | _, [], t => some t
  | i, p :: ps, t => match FT.set 24 t i p with | some t' => FT.args (i + 1) ps t' | none => none
theorem FT.args_get : ∀ (ps : List PV) (i : Nat) (t t' : FT), FT.args i ps t = some t' → ∀ u, t'.get u = if i ≤ u ∧ u < i + ps.length then (ps[u - i]?).getD (.tup []) else t.get u
  | [], i, t, t', h, u => by cases h; rw [if_neg (by simp)]
  | p :: ps, i, t, t', h, u => by
    unfold FT.args at h
    split at h
    · rename_i t1 h1
      have ih := FT.args_get ps (i + 1) t1 t' h u
      rw [ih, FT.get_set _ _ _ _ _ h1 u]
      by_cases q : u = i
      · subst q
        rw [if_neg (by omega), if_pos rfl, if_pos (by simp)]
        simp
      · by_cases q2 : i + 1 ≤ u ∧ u < i + 1 + ps.length
        · rw [if_pos q2, if_pos (by simp; omega)]
          have : u - i = u - (i + 1) + 1 := by omega
          rw [this, List.getElem?_cons_succ]
        · rw [if_neg q2, if_neg q, if_neg (by simp; omega)]
    · cases h
theorem FT.args_fr {ps : List PV} {t : FT} (h : FT.args 0 ps .nil = some t) : t.get = argFr ps := by
  funext u
  rw [FT.args_get ps 0 .nil t h u]
  unfold argFr
  by_cases q : u < ps.length
  · rw [if_pos (by omega)]; rfl
  · rw [if_neg (by omega), List.getElem?_eq_none (by omega)]; rfl

structure FnD where
  N : Nat
  rs : List ResultVar
  code : Code

abbrev Tbl := FuncId → Option FnD
/-- Functions that are met by a plain contract. -/
abbrev Cts := FuncId → Option (List PV → Option PV)
abbrev BodyE := Nat → Code → FT → Store → Option (Exit × FT × Store)

section
variable (E : Env) (tb : Tbl) (ct : Cts)

/-- A call, its body being run. -/
def evFn (body : BodyE) (f : FuncId) (args : List PV) (st : Store) : Option (PV × Store) :=
  match tb f with
  | none => none
  | some d => bif Nat.ble args.length d.N then
      (match FT.args 0 args .nil with
      | none => none
      | some t => match body d.N d.code t st with
        | some (.normal, t', st') => (match resF E d.rs t'.get st' with | some v => some (v, st') | none => none)
        | some (.ret, t', st') => (match resF E d.rs t'.get st' with | some v => some (v, st') | none => none)
        | _ => none)
    else none
def evCall (body : BodyE) (fr : Fr) (st : Store) (g : Operand) (c : Call) : Option (PV × Store) :=
  bif Nat.beq c.args.size c.argTypes.size then
    (match evalO E fr g with
    | .fn f caps => bif E.pl f then
        (match caps, strips (callArgs E fr c) with
        | [], some xs => (match ct f with
          | some g => (match g xs with | some v' => some (v', st) | none => none)
          | none => (match evFn E tb body f xs [] with
            | some (v, st1) => (match pub st1 64 v with | some v' => some (v', st) | none => none)
            | none => none))
        | _, _ => none)
      else evFn E tb body f (callArgs E fr c ++ caps) st
    | _ => none)
  else none
def evStep (body : BodyE) (fr : Fr) (st : Store) (o : Oper) : Option (PV × Store) :=
  match o.op with
  | .call c => (match c.callee with
    | .value g => evCall E tb ct body fr st g c
    | _ => opF E o.type fr st o.op)
  | op => opF E o.type fr st op
/-- The indices below n that are not in a list. -/
def unseen (n : Nat) (seen : List Nat) : List Nat := (List.range n).filter fun j => !seen.contains j
/-- A range's step, where there is but one. -/
def evNext (fr : Fr) (st : Store) (op : Op) : Option (PV × Store) :=
  match op with
  | .next x false => (match evalO E fr x with
    | .it i => (match st[i]? with
      | some (.iter none _ _) => some (.tup [.bool false], st)
      | some (.iter (some m) n seen) => (match st[m]? with
        | some (.map es) => bif Nat.beq es.length n then
            (match unseen n seen with
            | [] => some (.tup [.bool false], st)
            | [j] => (match es[j]? with
              | some (kp, vp) => some (.tup [.bool true, kp, vp], st.set i (.iter (some m) n (seen ++ [j])))
              | none => none)
            | _ => none)
          else none
        | _ => none)
      | _ => none)
    | _ => none)
  | .binOp .eql t x (.const (.slice none 0 0)) _ => (match E.T t, evalO E fr x with
    | some ⟨.slice _, _, _⟩, .sl _ (_ :: _) _ => some (.bool false, st)
    | _, _ => none)
  | .binOp .neq t x (.const (.slice none 0 0)) _ => (match E.T t, evalO E fr x with
    | some ⟨.slice _, _, _⟩, .sl _ (_ :: _) _ => some (.bool true, st)
    | _, _ => none)
  | _ => none
def evOps (body : BodyE) (ops : Array Oper) : List Oper → FT → Store → Option (FT × Store)
  | [], t, st => some (t, st)
  | o :: rest, t, st => match guardF ops t.get o with
    | some true => (match (bif isNext o.op then evNext E t.get st o.op else evStep E tb ct body t.get st o) with
      | some (v, st') => (match t.upd o.dst v with | some t' => evOps body ops rest t' st' | none => none)
      | none => none)
    | some false => (match t.upd o.dst (.tup []) with | some t' => evOps body ops rest t' st | none => none)
    | none => none
def ev : Nat → BodyE
  | 0, _, _, _, _ => none
  | n + 1, N, c, t, st => match c with
    | .skip => some (.normal, t, st)
    | .region id ops d => bif d && E.xr id then none else (match evOps E tb ct (ev n) ops ops.toList t st with | some (t', st') => some (.normal, t', st') | none => none)
    | .seq a b => (match ev n N a t st with | some (.normal, t', st') => ev n N b t' st' | r => r)
    | .cond x a b => (match evalO E t.get x with | .bool true => ev n N a t st | .bool false => ev n N b t st | _ => none)
    | .block id b => (match ev n N b t st with | some (.exit i, t', st') => (bif Nat.beq i id then some (.normal, t', st') else some (.exit i, t', st')) | r => r)
    | .loop b => (match ev n N b t st with | some (.normal, t', st') => ev n N (.loop b) t' st' | r => r)
    | .exit i => some (.exit i, t, st)
    | .label _ => some (.normal, t, st)
    | .ret => some (.ret, t, st)
    | _ => none
end

/-- What a table says of its functions. -/
def TblOk (E : Env) (tb : Tbl) : Prop := ∀ f d, tb f = some d → FnOk E f d.N d.rs d.code

/-- What a table says of the functions that are met by a plain contract. -/
def CtsOk (E : Env) (ct : Cts) : Prop := ∀ f g, ct f = some g → ∀ xs v, g xs = some v → Plain E f xs v
def BodyOk (E : Env) (body : BodyE) : Prop := ∀ N c t st e t' st', body N c t st = some (e, t', st') → W E N c t.get st fun e1 fr1 st1 => e1 = e ∧ fr1 = t'.get ∧ st1 = st'

section
variable {E : Env} {tb : Tbl} {ct : Cts}
theorem evFn_body (htb : TblOk E tb) {body : BodyE} (hb : BodyOk E body) {f : FuncId} {args : List PV} {st : Store} {v : PV} {st' : Store} (h : evFn E tb body f args st = some (v, st')) :
    ∃ d : FnD, FnOk E f d.N d.rs d.code ∧ args.length ≤ d.N ∧ BodyW E d.N d.rs d.code args st fun v1 st1 => v1 = v ∧ st1 = st' := by
  unfold evFn at h
  split at h
  · cases h
  · rename_i d hd
    cases hl : Nat.ble args.length d.N with
    | false => rw [hl] at h; cases h
    | true =>
      rw [hl, cond_true] at h
      split at h
      · cases h
      · rename_i t ht
        refine ⟨d, htb f d hd, Nat.le_of_ble_eq_true hl, ?_⟩
        unfold BodyW
        rw [← FT.args_fr ht]
        split at h
        · rename_i t' st1 hr
          split at h
          · rename_i v1 hv
            cases h
            refine W.mono _ _ _ (fun e fr st q => ?_) _ _ (hb _ _ _ _ _ _ _ hr)
            obtain ⟨rfl, rfl, rfl⟩ := q
            exact ⟨.inl rfl, _, hv, rfl, rfl⟩
          · cases h
        · rename_i t' st1 hr
          split at h
          · rename_i v1 hv
            cases h
            refine W.mono _ _ _ (fun e fr st q => ?_) _ _ (hb _ _ _ _ _ _ _ hr)
            obtain ⟨rfl, rfl, rfl⟩ := q
            exact ⟨.inr rfl, _, hv, rfl, rfl⟩
          · cases h
        · cases h
theorem evFn_spec (hE : EnvOk E) (htb : TblOk E tb) {body : BodyE} (hb : BodyOk E body) {f : FuncId} {args : List PV} {st : Store} {v : PV} {st' : Store} (h : evFn E tb body f args st = some (v, st')) : Spec E f args st v st' := by
  obtain ⟨d, ok, hl, hw⟩ := evFn_body htb hb h
  exact spec_of_W hE ok hl hw
theorem evFn_plain (hE : EnvOk E) (htb : TblOk E tb) {body : BodyE} (hb : BodyOk E body) {f : FuncId} {args : List PV} {v v' : PV} {st' : Store} {n : Nat} (h : evFn E tb body f args [] = some (v, st')) (hp : pub st' n v = some v') : Plain E f args v' := by
  obtain ⟨d, ok, hl, hw⟩ := evFn_body htb hb h
  refine plain_of_W hE ok hl (W.mono _ _ _ (fun e fr st q => ?_) _ _ hw)
  obtain ⟨a, v1, hv, rfl, rfl⟩ := q
  exact ⟨a, v1, hv, n, hp⟩
theorem evStep_sound (hE : EnvOk E) (htb : TblOk E tb) (hct : CtsOk E ct) {body : BodyE} (hb : BodyOk E body) {fr : Fr} {st : Store} {o : Oper} {v : PV} {st' : Store} (h : evStep E tb ct body fr st o = some (v, st')) : StepR E fr st o v st' := by
  unfold evStep at h
  unfold StepR
  split at h
  · rename_i c hc
    rw [hc]
    simp only
    split at h
    · rename_i g hg
      rw [hg]
      simp only
      unfold evCall at h
      cases hs : Nat.beq c.args.size c.argTypes.size with
      | false => rw [hs] at h; cases h
      | true =>
        rw [hs, cond_true] at h
        refine ⟨Nat.eq_of_beq_eq_true hs, ?_⟩
        split at h
        · rename_i f caps hf
          rw [hf]
          simp only
          cases hp : E.pl f with
          | true =>
            rw [hp, cond_true] at h
            rw [if_pos rfl]
            split at h
            · rename_i xs hx
              split at h
              · rename_i g hg
                split at h
                · rename_i v' hv'
                  cases h
                  exact ⟨rfl, rfl, xs, hx, hct _ _ hg _ _ hv'⟩
                · cases h
              · split at h
                · rename_i v1 st1 h1
                  split at h
                  · rename_i v' hv'
                    cases h
                    exact ⟨rfl, rfl, xs, hx, evFn_plain hE htb hb h1 hv'⟩
                  · cases h
                · cases h
            · cases h
          | false =>
            rw [hp, cond_false] at h
            rw [if_neg (by simp)]
            exact evFn_spec hE htb hb h
        · cases h
    · rename_i x hx
      split
      · rename_i g hg; exact absurd hg (hx g)
      · rw [← hc]; exact h
  · rename_i op hx
    split
    · rename_i c hc; exact absurd hc (hx c)
    · exact h

theorem evNext_sound {fr : Fr} {st : Store} {op : Op} {v : PV} {st' : Store} (h : evNext E fr st op = some (v, st')) {k : PV → Store → Prop} (hk : k v st') : NextW E fr st op k := by
  have un : ∀ n seen j, j ∈ unseen n seen ↔ j < n ∧ j ∉ seen := by intro n seen j; simp [unseen]
  unfold evNext at h
  unfold NextW
  split at h
  · rename_i x
    simp only
    split at h
    · rename_i i hi
      simp only [hi]
      split at h
      · rename_i n0 seen0 hs
        simp only [hs]
        cases h; exact hk
      · rename_i m n seen hs
        simp only [hs]
        split at h
        · rename_i es hm
          simp only [hm]
          cases hl : Nat.beq es.length n with
          | false => rw [hl] at h; cases h
          | true =>
            rw [hl, cond_true] at h
            have hl := Nat.eq_of_beq_eq_true hl
            split at h
            · rename_i hu
              cases h
              refine ⟨hl, fun _ => hk, fun j kp vp hj he => ?_⟩
              have : j ∈ unseen n seen := (un n seen j).2 ⟨by have := (List.getElem?_eq_some_iff.1 he).1; omega, hj⟩
              rw [hu] at this; cases this
            · rename_i j0 hu
              split at h
              · rename_i kp0 vp0 he0
                cases h
                have hj0 := (un n seen j0).1 (by rw [hu]; simp)
                refine ⟨hl, fun hall => absurd (hall j0 hj0.1) hj0.2, fun j kp vp hj he => ?_⟩
                have : j ∈ unseen n seen := (un n seen j).2 ⟨by have := (List.getElem?_eq_some_iff.1 he).1; omega, hj⟩
                rw [hu] at this
                obtain rfl : j = j0 := by simpa using this
                rw [he0] at he
                injection he with he
                injection he with e1 e2
                subst e1 e2
                exact hk
              · cases h
            · cases h
        · cases h
      · cases h
    · cases h
  · rename_i t x ty
    simp only
    split at h
    · rename_i hT hx
      rw [hx]
      cases h
      exact ⟨⟨_, _, _, hT⟩, ⟨fun e => (List.cons_ne_nil _ _ e).elim, fun _ => hk⟩⟩
    · cases h
  · rename_i t x ty
    simp only
    split at h
    · rename_i hT hx
      rw [hx]
      cases h
      exact ⟨⟨_, _, _, hT⟩, ⟨fun e => (List.cons_ne_nil _ _ e).elim, fun _ => hk⟩⟩
    · cases h
  · cases h
theorem evOps_sound (hE : EnvOk E) (htb : TblOk E tb) (hct : CtsOk E ct) {body : BodyE} (hb : BodyOk E body) {ops : Array Oper} : ∀ (l : List Oper) (t : FT) (st : Store) (t' : FT) (st' : Store), evOps E tb ct body ops l t st = some (t', st') → OpsW E ops l t.get st fun fr1 st1 => fr1 = t'.get ∧ st1 = st'
  | [], t, st, t', st', h => by cases h; exact ⟨rfl, rfl⟩
  | o :: rest, t, st, t', st', h => by
    unfold evOps at h
    unfold OpsW
    split at h
    · rename_i hg
      rw [hg]
      split at h
      · rename_i v st1 hs
        split at h
        · rename_i t1 ht
          have ih := evOps_sound hE htb hct hb rest t1 st1 t' st' h
          rw [FT.upd_get ht] at ih
          refine Br.mk (fun _ => ?_) (fun q => by cases q)
          unfold StepW
          cases hx : isNext o.op with
          | true => rw [hx, cond_true] at hs; rw [if_pos rfl]; exact evNext_sound hs ih
          | false => rw [hx, cond_false] at hs; rw [if_neg (by simp)]; exact ⟨v, st1, evStep_sound hE htb hct hb hs, ih⟩
        · cases h
      · cases h
    · rename_i hg
      rw [hg]
      split at h
      · rename_i t1 ht
        have ih := evOps_sound hE htb hct hb rest t1 st t' st' h
        rw [FT.upd_get ht] at ih
        exact Br.mk (fun q => by cases q) (fun _ => ih)
      · cases h
    · cases h

theorem ev_sound (hE : EnvOk E) (htb : TblOk E tb) (hct : CtsOk E ct) : ∀ n, BodyOk E (ev E tb ct n)
  | 0 => fun N c t st e t' st' h => by cases h
  | n + 1 => fun N c t st e t' st' h => by
    have ih := ev_sound hE htb hct n
    cases c with
    | skip => cases h; exact ⟨rfl, rfl, rfl⟩
    | region id ops d =>
      simp only [ev] at h
      cases hx : (d && E.xr id) with
      | true => rw [hx] at h; cases h
      | false =>
        rw [hx, cond_false] at h
        unfold W
        rw [if_neg (by rw [hx]; simp)]
        split at h
        · rename_i t1 st1 ho
          cases h
          exact OpsW.mono (fun fr st q => ⟨rfl, q.1, q.2⟩) _ _ _ (evOps_sound hE htb hct ih _ _ _ _ _ ho)
        · cases h
    | seq a b =>
      simp only [ev] at h
      rw [W_seq]
      split at h
      · rename_i t1 st1 ha
        refine W.mono _ _ _ (fun e1 fr1 s1 q => ?_) _ _ (ih _ _ _ _ _ _ _ ha)
        obtain ⟨rfl, rfl, rfl⟩ := q
        exact ih _ _ _ _ _ _ _ h
      · rename_i hne
        refine W.mono _ _ _ (fun e1 fr1 s1 q => ?_) _ _ (ih _ _ _ _ _ _ _ h)
        obtain ⟨rfl, rfl, rfl⟩ := q
        cases e1 <;> first | exact ⟨rfl, rfl, rfl⟩ | exact absurd h (hne _ _)
    | cond x a b =>
      simp only [ev] at h
      rw [W_cond]
      split at h
      · rename_i hx; rw [hx]; exact Br.mk (fun _ => ih _ _ _ _ _ _ _ h) (fun q => by cases q)
      · rename_i hx; rw [hx]; exact Br.mk (fun q => by cases q) (fun _ => ih _ _ _ _ _ _ _ h)
      · cases h
    | block id b =>
      simp only [ev] at h
      rw [W_block]
      split at h
      · rename_i i t1 st1 hb
        refine W.mono _ _ _ (fun e1 fr1 s1 q => ?_) _ _ (ih _ _ _ _ _ _ _ hb)
        obtain ⟨rfl, rfl, rfl⟩ := q
        simp only
        cases hi : Nat.beq i id with
        | true =>
          rw [hi, cond_true] at h
          rw [if_pos (Nat.eq_of_beq_eq_true hi)]
          cases h; exact ⟨rfl, rfl, rfl⟩
        | false =>
          rw [hi, cond_false] at h
          rw [if_neg (Nat.ne_of_beq_eq_false hi)]
          cases h; exact ⟨rfl, rfl, rfl⟩
      · rename_i hne
        refine W.mono _ _ _ (fun e1 fr1 s1 q => ?_) _ _ (ih _ _ _ _ _ _ _ h)
        obtain ⟨rfl, rfl, rfl⟩ := q
        cases e1 <;> first | exact ⟨rfl, rfl, rfl⟩ | exact absurd h (hne _ _ _)
    | loop b =>
      simp only [ev] at h
      split at h
      · rename_i t1 st1 hb
        obtain ⟨k, hk⟩ : W E N (.loop b) t1.get st1 fun e1 fr1 s1 => e1 = e ∧ fr1 = t'.get ∧ s1 = st' := ih _ _ _ _ _ _ _ h
        refine ⟨k + 1, ?_⟩
        refine W.mono _ _ _ (fun e1 fr1 s1 q => ?_) _ _ (ih _ _ _ _ _ _ _ hb)
        obtain ⟨rfl, rfl, rfl⟩ := q
        exact hk
      · rename_i hne
        refine ⟨1, ?_⟩
        refine W.mono _ _ _ (fun e1 fr1 s1 q => ?_) _ _ (ih _ _ _ _ _ _ _ h)
        obtain ⟨rfl, rfl, rfl⟩ := q
        cases e1 <;> first | exact ⟨rfl, rfl, rfl⟩ | exact absurd h (hne _ _)
    | exit i => cases h; exact ⟨rfl, rfl, rfl⟩
    | label i => cases h; exact ⟨rfl, rfl, rfl⟩
    | ret => cases h; exact ⟨rfl, rfl, rfl⟩
    | _ => cases h

/-- **A closed call, by reckoning.** -/
theorem plain_run (hE : EnvOk E) (htb : TblOk E tb) (hct : CtsOk E ct) {f : FuncId} {args : List PV} {v : PV} (n : Nat) (h : (match evFn E tb (ev E tb ct n) f args [] with | some (v1, st1) => pub st1 64 v1 | none => none) = some v) : Plain E f args v := by
  split at h
  · rename_i v1 st1 h1
    exact evFn_plain hE htb (ev_sound hE htb hct n) h1 h
  · cases h
end
end Go.Pv
end
section
namespace Go.Pv.Ct
open Go.Pv

def tyList : List (Nat × TI) := [
  (1, ⟨.fn, 1, [.nilfn]⟩),
  (2, ⟨.int .i64, 1, [.int .i64 0]⟩),
  (3, ⟨.int .i64, 1, [.int .i64 0]⟩),
  (4, ⟨.bool, 1, [.bool false]⟩),
  (5, ⟨.int .u8, 1, [.int .u8 0]⟩),
  (9, ⟨.str, 1, [.str []]⟩),
  (12, ⟨.int .u64, 1, [.int .u64 0]⟩),
  (13, ⟨.strct [(0, 9), (1, 12)], 2, [.str [], .int .u64 0]⟩),
  (20, ⟨.iface, 1, [.nilif]⟩),
  (21, ⟨.int .i32, 1, [.int .i32 0]⟩),
  (22, ⟨.slice 54, 1, [.sl 2 [] .full]⟩),
  (23, ⟨.slice 89, 1, [.sl 3 [] .full]⟩),
  (24, ⟨.strct [(0, 22), (1, 23), (2, 3), (3, 3), (4, 3)], 5, [.sl 2 [] .full, .sl 3 [] .full, .int .i64 0, .int .i64 0, .int .i64 0]⟩),
  (25, ⟨.strct [(0, 22), (1, 23), (2, 3), (3, 3), (4, 3)], 5, [.sl 2 [] .full, .sl 3 [] .full, .int .i64 0, .int .i64 0, .int .i64 0]⟩),
  (26, ⟨.fn, 1, [.nilfn]⟩),
  (27, ⟨.int .i64, 1, [.int .i64 0]⟩),
  (28, ⟨.fn, 1, [.nilfn]⟩),
  (29, ⟨.fn, 1, [.nilfn]⟩),
  (30, ⟨.slice 66, 1, [.sl 3 [] .full]⟩),
  (31, ⟨.slice 110, 1, [.sl 3 [] .full]⟩),
  (32, ⟨.slice 119, 1, [.sl 2 [] .full]⟩),
  (33, ⟨.strct [(0, 32)], 1, [.sl 2 [] .full]⟩),
  (34, ⟨.strct [(0, 32)], 1, [.sl 2 [] .full]⟩),
  (35, ⟨.strct [(0, 30), (1, 31), (2, 34)], 3, [.sl 3 [] .full, .sl 3 [] .full, .sl 2 [] .full]⟩),
  (36, ⟨.strct [(0, 30), (1, 31), (2, 34)], 3, [.sl 3 [] .full, .sl 3 [] .full, .sl 2 [] .full]⟩),
  (37, ⟨.slice 3, 1, [.sl 1 [] .full]⟩),
  (38, ⟨.strct [(0, 36), (3, 25), (8, 37)], 9, [.sl 3 [] .full, .sl 3 [] .full, .sl 2 [] .full, .sl 2 [] .full, .sl 3 [] .full, .int .i64 0, .int .i64 0, .int .i64 0, .sl 1 [] .full]⟩),
  (39, ⟨.strct [(0, 36), (3, 25), (8, 37)], 9, [.sl 3 [] .full, .sl 3 [] .full, .sl 2 [] .full, .sl 2 [] .full, .sl 3 [] .full, .int .i64 0, .int .i64 0, .int .i64 0, .sl 1 [] .full]⟩),
  (40, ⟨.fn, 1, [.nilfn]⟩),
  (41, ⟨.slice 68, 1, [.sl 4 [] .full]⟩),
  (43, ⟨.fn, 1, [.nilfn]⟩),
  (44, ⟨.fn, 1, [.nilfn]⟩),
  (45, ⟨.fn, 1, [.nilfn]⟩),
  (47, ⟨.fn, 1, [.nilfn]⟩),
  (48, ⟨.fn, 1, [.nilfn]⟩),
  (49, ⟨.fn, 1, [.nilfn]⟩),
  (50, ⟨.fn, 1, [.nilfn]⟩),
  (51, ⟨.fn, 1, [.nilfn]⟩),
  (52, ⟨.fn, 1, [.nilfn]⟩),
  (53, ⟨.strct [(0, 37), (1, 41)], 2, [.sl 1 [] .full, .sl 4 [] .full]⟩),
  (54, ⟨.strct [(0, 37), (1, 41)], 2, [.sl 1 [] .full, .sl 4 [] .full]⟩),
  (55, ⟨.fn, 1, [.nilfn]⟩),
  (56, ⟨.fn, 1, [.nilfn]⟩),
  (57, ⟨.fn, 1, [.nilfn]⟩),
  (58, ⟨.fn, 1, [.nilfn]⟩),
  (59, ⟨.fn, 1, [.nilfn]⟩),
  (60, ⟨.fn, 1, [.nilfn]⟩),
  (61, ⟨.fn, 1, [.nilfn]⟩),
  (62, ⟨.fn, 1, [.nilfn]⟩),
  (63, ⟨.fn, 1, [.nilfn]⟩),
  (64, ⟨.fn, 1, [.nilfn]⟩),
  (65, ⟨.strct [(0, 3), (1, 3), (2, 3)], 3, [.int .i64 0, .int .i64 0, .int .i64 0]⟩),
  (66, ⟨.strct [(0, 3), (1, 3), (2, 3)], 3, [.int .i64 0, .int .i64 0, .int .i64 0]⟩),
  (67, ⟨.strct [(0, 3), (1, 3), (2, 3), (3, 4)], 4, [.int .i64 0, .int .i64 0, .int .i64 0, .bool false]⟩),
  (68, ⟨.strct [(0, 3), (1, 3), (2, 3), (3, 4)], 4, [.int .i64 0, .int .i64 0, .int .i64 0, .bool false]⟩),
  (69, ⟨.fn, 1, [.nilfn]⟩),
  (71, ⟨.ptr 101, 1, [.nilp]⟩),
  (72, ⟨.fn, 1, [.nilfn]⟩),
  (73, ⟨.fn, 1, [.nilfn]⟩),
  (74, ⟨.fn, 1, [.nilfn]⟩),
  (75, ⟨.fn, 1, [.nilfn]⟩),
  (77, ⟨.fn, 1, [.nilfn]⟩),
  (78, ⟨.fn, 1, [.nilfn]⟩),
  (79, ⟨.fn, 1, [.nilfn]⟩),
  (80, ⟨.ptr 108, 1, [.nilp]⟩),
  (81, ⟨.fn, 1, [.nilfn]⟩),
  (82, ⟨.fn, 1, [.nilfn]⟩),
  (83, ⟨.fn, 1, [.nilfn]⟩),
  (84, ⟨.fn, 1, [.nilfn]⟩),
  (85, ⟨.fn, 1, [.nilfn]⟩),
  (86, ⟨.fn, 1, [.nilfn]⟩),
  (87, ⟨.map 9 4, 1, [.nilmap]⟩),
  (88, ⟨.strct [(0, 9), (1, 3), (2, 3)], 3, [.str [], .int .i64 0, .int .i64 0]⟩),
  (89, ⟨.strct [(0, 9), (1, 3), (2, 3)], 3, [.str [], .int .i64 0, .int .i64 0]⟩),
  (90, ⟨.fn, 1, [.nilfn]⟩),
  (91, ⟨.fn, 1, [.nilfn]⟩),
  (92, ⟨.fn, 1, [.nilfn]⟩),
  (93, ⟨.fn, 1, [.nilfn]⟩),
  (94, ⟨.fn, 1, [.nilfn]⟩),
  (95, ⟨.fn, 1, [.nilfn]⟩),
  (96, ⟨.fn, 1, [.nilfn]⟩),
  (97, ⟨.fn, 1, [.nilfn]⟩),
  (98, ⟨.fn, 1, [.nilfn]⟩),
  (99, ⟨.map 9 41, 1, [.nilmap]⟩),
  (100, ⟨.strct [(0, 25), (5, 30), (6, 99)], 7, [.sl 2 [] .full, .sl 3 [] .full, .int .i64 0, .int .i64 0, .int .i64 0, .sl 3 [] .full, .nilmap]⟩),
  (101, ⟨.strct [(0, 25), (5, 30), (6, 99)], 7, [.sl 2 [] .full, .sl 3 [] .full, .int .i64 0, .int .i64 0, .int .i64 0, .sl 3 [] .full, .nilmap]⟩),
  (102, ⟨.fn, 1, [.nilfn]⟩),
  (103, ⟨.fn, 1, [.nilfn]⟩),
  (104, ⟨.fn, 1, [.nilfn]⟩),
  (105, ⟨.map 3 110, 1, [.nilmap]⟩),
  (106, ⟨.map 3 37, 1, [.nilmap]⟩),
  (107, ⟨.strct [(0, 105), (1, 4), (2, 106)], 3, [.nilmap, .bool false, .nilmap]⟩),
  (108, ⟨.strct [(0, 105), (1, 4), (2, 106)], 3, [.nilmap, .bool false, .nilmap]⟩),
  (109, ⟨.strct [(0, 3), (1, 37), (2, 9)], 3, [.int .i64 0, .sl 1 [] .full, .str []]⟩),
  (110, ⟨.strct [(0, 3), (1, 37), (2, 9)], 3, [.int .i64 0, .sl 1 [] .full, .str []]⟩),
  (112, ⟨.fn, 1, [.nilfn]⟩),
  (113, ⟨.fn, 1, [.nilfn]⟩),
  (114, ⟨.fn, 1, [.nilfn]⟩),
  (115, ⟨.fn, 1, [.nilfn]⟩),
  (116, ⟨.fn, 1, [.nilfn]⟩),
  (117, ⟨.fn, 1, [.nilfn]⟩),
  (118, ⟨.strct [(0, 3), (1, 3)], 2, [.int .i64 0, .int .i64 0]⟩),
  (119, ⟨.strct [(0, 3), (1, 3)], 2, [.int .i64 0, .int .i64 0]⟩),
  (120, ⟨.fn, 1, [.nilfn]⟩),
  (121, ⟨.fn, 1, [.nilfn]⟩),
  (122, ⟨.fn, 1, [.nilfn]⟩),
  (123, ⟨.fn, 1, [.nilfn]⟩),
  (124, ⟨.slice 4, 1, [.sl 1 [] .full]⟩),
  (125, ⟨.fn, 1, [.nilfn]⟩),
  (126, ⟨.fn, 1, [.nilfn]⟩),
  (127, ⟨.fn, 1, [.nilfn]⟩),
  (128, ⟨.fn, 1, [.nilfn]⟩),
  (129, ⟨.ptr 132, 1, [.nilp]⟩),
  (130, ⟨.slice 5, 1, [.sl 1 [] .full]⟩),
  (131, ⟨.strct [(0, 129), (1, 130)], 2, [.nilp, .sl 1 [] .full]⟩),
  (132, ⟨.strct [(0, 129), (1, 130)], 2, [.nilp, .sl 1 [] .full]⟩),
  (133, ⟨.iface, 1, [.nilif]⟩),
  (134, ⟨.iface, 1, [.nilif]⟩),
  (136, ⟨.fn, 1, [.nilfn]⟩),
  (137, ⟨.fn, 1, [.nilfn]⟩),
  (138, ⟨.fn, 1, [.nilfn]⟩),
  (139, ⟨.fn, 1, [.nilfn]⟩),
  (140, ⟨.fn, 1, [.nilfn]⟩),
  (142, ⟨.fn, 1, [.nilfn]⟩),
  (143, ⟨.fn, 1, [.nilfn]⟩),
  (144, ⟨.fn, 1, [.nilfn]⟩),
  (145, ⟨.fn, 1, [.nilfn]⟩),
  (146, ⟨.fn, 1, [.nilfn]⟩),
  (147, ⟨.fn, 1, [.nilfn]⟩),
  (148, ⟨.fn, 1, [.nilfn]⟩),
  (149, ⟨.fn, 1, [.nilfn]⟩),
  (150, ⟨.fn, 1, [.nilfn]⟩),
  (151, ⟨.fn, 1, [.nilfn]⟩),
  (152, ⟨.fn, 1, [.nilfn]⟩),
  (153, ⟨.fn, 1, [.nilfn]⟩),
  (154, ⟨.fn, 1, [.nilfn]⟩),
  (155, ⟨.map 3 3, 1, [.nilmap]⟩),
  (157, ⟨.ptr 5, 1, [.nilp]⟩),
  (158, ⟨.slice 37, 1, [.sl 1 [] .full]⟩),
  (159, ⟨.array 3 3, 3, [.int .i64 0, .int .i64 0, .int .i64 0]⟩),
  (160, ⟨.fn, 1, [.nilfn]⟩),
  (161, ⟨.int .u64, 1, [.int .u64 0]⟩),
  (162, ⟨.fn, 1, [.nilfn]⟩),
  (163, ⟨.fn, 1, [.nilfn]⟩),
  (164, ⟨.fn, 1, [.nilfn]⟩),
  (165, ⟨.fn, 1, [.nilfn]⟩),
  (166, ⟨.fn, 1, [.nilfn]⟩),
  (167, ⟨.fn, 1, [.nilfn]⟩),
  (168, ⟨.array 4 119, 8, [.int .i64 0, .int .i64 0, .int .i64 0, .int .i64 0, .int .i64 0, .int .i64 0, .int .i64 0, .int .i64 0]⟩),
  (169, ⟨.fn, 1, [.nilfn]⟩),
  (170, ⟨.map 172 4, 1, [.nilmap]⟩),
  (171, ⟨.strct [(0, 3), (1, 9)], 2, [.int .i64 0, .str []]⟩),
  (172, ⟨.strct [(0, 3), (1, 9)], 2, [.int .i64 0, .str []]⟩),
  (173, ⟨.fn, 1, [.nilfn]⟩),
  (174, ⟨.fn, 1, [.nilfn]⟩),
  (175, ⟨.fn, 1, [.nilfn]⟩),
  (176, ⟨.fn, 1, [.nilfn]⟩),
  (177, ⟨.fn, 1, [.nilfn]⟩),
  (178, ⟨.fn, 1, [.nilfn]⟩),
  (179, ⟨.array 2 3, 2, [.int .i64 0, .int .i64 0]⟩),
  (180, ⟨.array 3 179, 6, [.int .i64 0, .int .i64 0, .int .i64 0, .int .i64 0, .int .i64 0, .int .i64 0]⟩),
  (182, ⟨.fn, 1, [.nilfn]⟩),
  (183, ⟨.fn, 1, [.nilfn]⟩),
  (184, ⟨.fn, 1, [.nilfn]⟩),
  (185, ⟨.fn, 1, [.nilfn]⟩),
  (186, ⟨.fn, 1, [.nilfn]⟩),
  (187, ⟨.fn, 1, [.nilfn]⟩),
  (188, ⟨.fn, 1, [.nilfn]⟩),
  (189, ⟨.fn, 1, [.nilfn]⟩),
  (190, ⟨.fn, 1, [.nilfn]⟩),
  (191, ⟨.array 24 5, 24, [.int .u8 0, .int .u8 0, .int .u8 0, .int .u8 0, .int .u8 0, .int .u8 0, .int .u8 0, .int .u8 0, .int .u8 0, .int .u8 0, .int .u8 0, .int .u8 0, .int .u8 0, .int .u8 0, .int .u8 0, .int .u8 0, .int .u8 0, .int .u8 0, .int .u8 0, .int .u8 0, .int .u8 0, .int .u8 0, .int .u8 0, .int .u8 0]⟩),
  (192, ⟨.int .u64, 1, [.int .u64 0]⟩),
  (193, ⟨.fn, 1, [.nilfn]⟩),
  (194, ⟨.fn, 1, [.nilfn]⟩),
  (196, ⟨.fn, 1, [.nilfn]⟩),
  (197, ⟨.fn, 1, [.nilfn]⟩),
  (198, ⟨.fn, 1, [.nilfn]⟩),
  (199, ⟨.int .i64, 1, [.int .i64 0]⟩),
  (201, ⟨.fn, 1, [.nilfn]⟩),
  (202, ⟨.fn, 1, [.nilfn]⟩),
  (203, ⟨.fn, 1, [.nilfn]⟩),
  (204, ⟨.fn, 1, [.nilfn]⟩),
  (205, ⟨.fn, 1, [.nilfn]⟩),
  (206, ⟨.int .u32, 1, [.int .u32 0]⟩),
  (207, ⟨.fn, 1, [.nilfn]⟩),
  (208, ⟨.array 20 192, 20, [.int .u64 0, .int .u64 0, .int .u64 0, .int .u64 0, .int .u64 0, .int .u64 0, .int .u64 0, .int .u64 0, .int .u64 0, .int .u64 0, .int .u64 0, .int .u64 0, .int .u64 0, .int .u64 0, .int .u64 0, .int .u64 0, .int .u64 0, .int .u64 0, .int .u64 0, .int .u64 0]⟩),
  (209, ⟨.array 65 5, 65, [.int .u8 0, .int .u8 0, .int .u8 0, .int .u8 0, .int .u8 0, .int .u8 0, .int .u8 0, .int .u8 0, .int .u8 0, .int .u8 0, .int .u8 0, .int .u8 0, .int .u8 0, .int .u8 0, .int .u8 0, .int .u8 0, .int .u8 0, .int .u8 0, .int .u8 0, .int .u8 0, .int .u8 0, .int .u8 0, .int .u8 0, .int .u8 0, .int .u8 0, .int .u8 0, .int .u8 0, .int .u8 0, .int .u8 0, .int .u8 0, .int .u8 0, .int .u8 0, .int .u8 0, .int .u8 0, .int .u8 0, .int .u8 0, .int .u8 0, .int .u8 0, .int .u8 0, .int .u8 0, .int .u8 0, .int .u8 0, .int .u8 0, .int .u8 0, .int .u8 0, .int .u8 0, .int .u8 0, .int .u8 0, .int .u8 0, .int .u8 0, .int .u8 0, .int .u8 0, .int .u8 0, .int .u8 0, .int .u8 0, .int .u8 0, .int .u8 0, .int .u8 0, .int .u8 0, .int .u8 0, .int .u8 0, .int .u8 0, .int .u8 0, .int .u8 0, .int .u8 0]⟩),
  (210, ⟨.fn, 1, [.nilfn]⟩),
  (211, ⟨.int .u64, 1, [.int .u64 0]⟩),
  (212, ⟨.fn, 1, [.nilfn]⟩),
  (213, ⟨.fn, 1, [.nilfn]⟩),
  (214, ⟨.fn, 1, [.nilfn]⟩),
  (215, ⟨.ptr 3, 1, [.nilp]⟩),
  (216, ⟨.fn, 1, [.nilfn]⟩),
  (217, ⟨.ptr 211, 1, [.nilp]⟩),
  (219, ⟨.fn, 1, [.nilfn]⟩),
  (220, ⟨.array 32 5, 32, [.int .u8 0, .int .u8 0, .int .u8 0, .int .u8 0, .int .u8 0, .int .u8 0, .int .u8 0, .int .u8 0, .int .u8 0, .int .u8 0, .int .u8 0, .int .u8 0, .int .u8 0, .int .u8 0, .int .u8 0, .int .u8 0, .int .u8 0, .int .u8 0, .int .u8 0, .int .u8 0, .int .u8 0, .int .u8 0, .int .u8 0, .int .u8 0, .int .u8 0, .int .u8 0, .int .u8 0, .int .u8 0, .int .u8 0, .int .u8 0, .int .u8 0, .int .u8 0]⟩),
  (221, ⟨.array 64 5, 64, [.int .u8 0, .int .u8 0, .int .u8 0, .int .u8 0, .int .u8 0, .int .u8 0, .int .u8 0, .int .u8 0, .int .u8 0, .int .u8 0, .int .u8 0, .int .u8 0, .int .u8 0, .int .u8 0, .int .u8 0, .int .u8 0, .int .u8 0, .int .u8 0, .int .u8 0, .int .u8 0, .int .u8 0, .int .u8 0, .int .u8 0, .int .u8 0, .int .u8 0, .int .u8 0, .int .u8 0, .int .u8 0, .int .u8 0, .int .u8 0, .int .u8 0, .int .u8 0, .int .u8 0, .int .u8 0, .int .u8 0, .int .u8 0, .int .u8 0, .int .u8 0, .int .u8 0, .int .u8 0, .int .u8 0, .int .u8 0, .int .u8 0, .int .u8 0, .int .u8 0, .int .u8 0, .int .u8 0, .int .u8 0, .int .u8 0, .int .u8 0, .int .u8 0, .int .u8 0, .int .u8 0, .int .u8 0, .int .u8 0, .int .u8 0, .int .u8 0, .int .u8 0, .int .u8 0, .int .u8 0, .int .u8 0, .int .u8 0, .int .u8 0, .int .u8 0]⟩),
  (227, ⟨.fn, 1, [.nilfn]⟩),
  (230, ⟨.fn, 1, [.nilfn]⟩)]
def plList : List Nat := [3, 4, 5, 6, 7, 8, 9, 10, 11, 12, 13, 14, 15, 16, 17, 18, 19, 20, 21, 22, 23, 24, 25, 26, 27, 28, 29, 30, 31, 32, 33, 34, 35, 36, 37, 38, 39, 40, 43, 44, 45, 46, 47, 50, 51, 54, 55, 56, 57, 58, 59, 62, 63, 66, 67, 68, 69, 70, 71, 72, 73, 75, 81, 82, 83, 84, 85, 86, 87, 89, 92, 93, 94, 95, 96, 100, 103, 104, 105, 106, 107, 114, 115, 116, 117, 118, 119, 120, 121, 122, 124, 125, 127, 128, 132, 136, 138, 141, 142, 143, 145, 147, 148, 149, 150, 154, 156, 158, 159, 160, 164, 166, 167, 168, 172, 174, 183, 184, 185, 186, 187, 188, 191, 195, 196]
def eqList : List Nat := [68, 119, 172, 159, 179]
/-- The ranges of the Hangul parts and syllables. -/
def rangesV : List PV := [.int .i64 4352, .int .i64 4370, .int .i64 4449, .int .i64 4469, .int .i64 4520, .int .i64 4546, .int .i64 44032, .int .i64 55203]
/-- The powers of ten. -/
def pow10V : List PV := Go.Lib.pow10Tab.map fun z => .int .u64 z
def GG (g : Nat) : PV := if g = 0 then .rptr rangesV else if g = 2 then .rptr pow10V else .bad
noncomputable def EE : Env := { P := Go.Proofs.Tryz.prog, T := fun t => tyList.lookup t, G := GG, pl := fun f => plList.contains f, eqt := fun t => eqList.contains t }
theorem types : tyList.all (fun q => q.2.okB Go.Proofs.Tryz.prog q.1) = true := by kernel_rfl
theorem eqs : eqList.all (fun t => eqOkB Go.Proofs.Tryz.prog t) = true := by kernel_rfl
theorem lookup_mem {l : List (Nat × TI)} {t : Nat} {ti : TI} (h : l.lookup t = some ti) : (t, ti) ∈ l := by
  induction l with
  | nil => cases h
  | cons x l ih =>
    obtain ⟨k, v⟩ := x
    rw [List.lookup_cons] at h
    split at h
    · rename_i e
      cases h
      have : t = k := by simpa using e
      subst this; simp
    · simp [ih h]
theorem ok : EnvOk EE where
  types t ti h := List.all_eq_true.1 types (t, ti) (lookup_mem h)
  mixed := by kernel_rfl
  eqs t h := List.all_eq_true.1 eqs t (by simpa [EE] using h)
theorem xrE (i : Nat) : EE.xr i = false := Eq.trans rfl rfl
def code (f : Func) : Code := f.body.getD .skip
theorem T1 : EE.T 1 = some ⟨.fn, 1, [.nilfn]⟩ := rfl
theorem T2 : EE.T 2 = some ⟨.int .i64, 1, [.int .i64 0]⟩ := rfl
theorem T3 : EE.T 3 = some ⟨.int .i64, 1, [.int .i64 0]⟩ := rfl
theorem T4 : EE.T 4 = some ⟨.bool, 1, [.bool false]⟩ := rfl
theorem T5 : EE.T 5 = some ⟨.int .u8, 1, [.int .u8 0]⟩ := rfl
theorem T9 : EE.T 9 = some ⟨.str, 1, [.str []]⟩ := rfl
theorem T12 : EE.T 12 = some ⟨.int .u64, 1, [.int .u64 0]⟩ := rfl
theorem T13 : EE.T 13 = some ⟨.strct [(0, 9), (1, 12)], 2, [.str [], .int .u64 0]⟩ := rfl
theorem T20 : EE.T 20 = some ⟨.iface, 1, [.nilif]⟩ := rfl
theorem T21 : EE.T 21 = some ⟨.int .i32, 1, [.int .i32 0]⟩ := rfl
theorem T22 : EE.T 22 = some ⟨.slice 54, 1, [.sl 2 [] .full]⟩ := rfl
theorem T23 : EE.T 23 = some ⟨.slice 89, 1, [.sl 3 [] .full]⟩ := rfl
theorem T24 : EE.T 24 = some ⟨.strct [(0, 22), (1, 23), (2, 3), (3, 3), (4, 3)], 5, [.sl 2 [] .full, .sl 3 [] .full, .int .i64 0, .int .i64 0, .int .i64 0]⟩ := rfl
theorem T25 : EE.T 25 = some ⟨.strct [(0, 22), (1, 23), (2, 3), (3, 3), (4, 3)], 5, [.sl 2 [] .full, .sl 3 [] .full, .int .i64 0, .int .i64 0, .int .i64 0]⟩ := rfl
theorem T26 : EE.T 26 = some ⟨.fn, 1, [.nilfn]⟩ := rfl
theorem T27 : EE.T 27 = some ⟨.int .i64, 1, [.int .i64 0]⟩ := rfl
theorem T28 : EE.T 28 = some ⟨.fn, 1, [.nilfn]⟩ := rfl
theorem T29 : EE.T 29 = some ⟨.fn, 1, [.nilfn]⟩ := rfl
theorem T30 : EE.T 30 = some ⟨.slice 66, 1, [.sl 3 [] .full]⟩ := rfl
theorem T31 : EE.T 31 = some ⟨.slice 110, 1, [.sl 3 [] .full]⟩ := rfl
theorem T32 : EE.T 32 = some ⟨.slice 119, 1, [.sl 2 [] .full]⟩ := rfl
theorem T33 : EE.T 33 = some ⟨.strct [(0, 32)], 1, [.sl 2 [] .full]⟩ := rfl
theorem T34 : EE.T 34 = some ⟨.strct [(0, 32)], 1, [.sl 2 [] .full]⟩ := rfl
theorem T35 : EE.T 35 = some ⟨.strct [(0, 30), (1, 31), (2, 34)], 3, [.sl 3 [] .full, .sl 3 [] .full, .sl 2 [] .full]⟩ := rfl
theorem T36 : EE.T 36 = some ⟨.strct [(0, 30), (1, 31), (2, 34)], 3, [.sl 3 [] .full, .sl 3 [] .full, .sl 2 [] .full]⟩ := rfl
theorem T37 : EE.T 37 = some ⟨.slice 3, 1, [.sl 1 [] .full]⟩ := rfl
theorem T38 : EE.T 38 = some ⟨.strct [(0, 36), (3, 25), (8, 37)], 9, [.sl 3 [] .full, .sl 3 [] .full, .sl 2 [] .full, .sl 2 [] .full, .sl 3 [] .full, .int .i64 0, .int .i64 0, .int .i64 0, .sl 1 [] .full]⟩ := rfl
theorem T39 : EE.T 39 = some ⟨.strct [(0, 36), (3, 25), (8, 37)], 9, [.sl 3 [] .full, .sl 3 [] .full, .sl 2 [] .full, .sl 2 [] .full, .sl 3 [] .full, .int .i64 0, .int .i64 0, .int .i64 0, .sl 1 [] .full]⟩ := rfl
theorem T40 : EE.T 40 = some ⟨.fn, 1, [.nilfn]⟩ := rfl
theorem T41 : EE.T 41 = some ⟨.slice 68, 1, [.sl 4 [] .full]⟩ := rfl
theorem T43 : EE.T 43 = some ⟨.fn, 1, [.nilfn]⟩ := rfl
theorem T44 : EE.T 44 = some ⟨.fn, 1, [.nilfn]⟩ := rfl
theorem T45 : EE.T 45 = some ⟨.fn, 1, [.nilfn]⟩ := rfl
theorem T47 : EE.T 47 = some ⟨.fn, 1, [.nilfn]⟩ := rfl
theorem T48 : EE.T 48 = some ⟨.fn, 1, [.nilfn]⟩ := rfl
theorem T49 : EE.T 49 = some ⟨.fn, 1, [.nilfn]⟩ := rfl
theorem T50 : EE.T 50 = some ⟨.fn, 1, [.nilfn]⟩ := rfl
theorem T51 : EE.T 51 = some ⟨.fn, 1, [.nilfn]⟩ := rfl
theorem T52 : EE.T 52 = some ⟨.fn, 1, [.nilfn]⟩ := rfl
theorem T53 : EE.T 53 = some ⟨.strct [(0, 37), (1, 41)], 2, [.sl 1 [] .full, .sl 4 [] .full]⟩ := rfl
theorem T54 : EE.T 54 = some ⟨.strct [(0, 37), (1, 41)], 2, [.sl 1 [] .full, .sl 4 [] .full]⟩ := rfl
theorem T55 : EE.T 55 = some ⟨.fn, 1, [.nilfn]⟩ := rfl
theorem T56 : EE.T 56 = some ⟨.fn, 1, [.nilfn]⟩ := rfl
theorem T57 : EE.T 57 = some ⟨.fn, 1, [.nilfn]⟩ := rfl
theorem T58 : EE.T 58 = some ⟨.fn, 1, [.nilfn]⟩ := rfl
theorem T59 : EE.T 59 = some ⟨.fn, 1, [.nilfn]⟩ := rfl
theorem T60 : EE.T 60 = some ⟨.fn, 1, [.nilfn]⟩ := rfl
theorem T61 : EE.T 61 = some ⟨.fn, 1, [.nilfn]⟩ := rfl
theorem T62 : EE.T 62 = some ⟨.fn, 1, [.nilfn]⟩ := rfl
theorem T63 : EE.T 63 = some ⟨.fn, 1, [.nilfn]⟩ := rfl
theorem T64 : EE.T 64 = some ⟨.fn, 1, [.nilfn]⟩ := rfl
theorem T65 : EE.T 65 = some ⟨.strct [(0, 3), (1, 3), (2, 3)], 3, [.int .i64 0, .int .i64 0, .int .i64 0]⟩ := rfl
theorem T66 : EE.T 66 = some ⟨.strct [(0, 3), (1, 3), (2, 3)], 3, [.int .i64 0, .int .i64 0, .int .i64 0]⟩ := rfl
theorem T67 : EE.T 67 = some ⟨.strct [(0, 3), (1, 3), (2, 3), (3, 4)], 4, [.int .i64 0, .int .i64 0, .int .i64 0, .bool false]⟩ := rfl
theorem T68 : EE.T 68 = some ⟨.strct [(0, 3), (1, 3), (2, 3), (3, 4)], 4, [.int .i64 0, .int .i64 0, .int .i64 0, .bool false]⟩ := rfl
theorem T69 : EE.T 69 = some ⟨.fn, 1, [.nilfn]⟩ := rfl
theorem T71 : EE.T 71 = some ⟨.ptr 101, 1, [.nilp]⟩ := rfl
theorem T72 : EE.T 72 = some ⟨.fn, 1, [.nilfn]⟩ := rfl
theorem T73 : EE.T 73 = some ⟨.fn, 1, [.nilfn]⟩ := rfl
theorem T74 : EE.T 74 = some ⟨.fn, 1, [.nilfn]⟩ := rfl
theorem T75 : EE.T 75 = some ⟨.fn, 1, [.nilfn]⟩ := rfl
theorem T77 : EE.T 77 = some ⟨.fn, 1, [.nilfn]⟩ := rfl
theorem T78 : EE.T 78 = some ⟨.fn, 1, [.nilfn]⟩ := rfl
theorem T79 : EE.T 79 = some ⟨.fn, 1, [.nilfn]⟩ := rfl
theorem T80 : EE.T 80 = some ⟨.ptr 108, 1, [.nilp]⟩ := rfl
theorem T81 : EE.T 81 = some ⟨.fn, 1, [.nilfn]⟩ := rfl
theorem T82 : EE.T 82 = some ⟨.fn, 1, [.nilfn]⟩ := rfl
theorem T83 : EE.T 83 = some ⟨.fn, 1, [.nilfn]⟩ := rfl
theorem T84 : EE.T 84 = some ⟨.fn, 1, [.nilfn]⟩ := rfl
theorem T85 : EE.T 85 = some ⟨.fn, 1, [.nilfn]⟩ := rfl
theorem T86 : EE.T 86 = some ⟨.fn, 1, [.nilfn]⟩ := rfl
theorem T87 : EE.T 87 = some ⟨.map 9 4, 1, [.nilmap]⟩ := rfl
theorem T88 : EE.T 88 = some ⟨.strct [(0, 9), (1, 3), (2, 3)], 3, [.str [], .int .i64 0, .int .i64 0]⟩ := rfl
theorem T89 : EE.T 89 = some ⟨.strct [(0, 9), (1, 3), (2, 3)], 3, [.str [], .int .i64 0, .int .i64 0]⟩ := rfl
theorem T90 : EE.T 90 = some ⟨.fn, 1, [.nilfn]⟩ := rfl
theorem T91 : EE.T 91 = some ⟨.fn, 1, [.nilfn]⟩ := rfl
theorem T92 : EE.T 92 = some ⟨.fn, 1, [.nilfn]⟩ := rfl
theorem T93 : EE.T 93 = some ⟨.fn, 1, [.nilfn]⟩ := rfl
theorem T94 : EE.T 94 = some ⟨.fn, 1, [.nilfn]⟩ := rfl
theorem T95 : EE.T 95 = some ⟨.fn, 1, [.nilfn]⟩ := rfl
theorem T96 : EE.T 96 = some ⟨.fn, 1, [.nilfn]⟩ := rfl
theorem T97 : EE.T 97 = some ⟨.fn, 1, [.nilfn]⟩ := rfl
theorem T98 : EE.T 98 = some ⟨.fn, 1, [.nilfn]⟩ := rfl
theorem T99 : EE.T 99 = some ⟨.map 9 41, 1, [.nilmap]⟩ := rfl
theorem T100 : EE.T 100 = some ⟨.strct [(0, 25), (5, 30), (6, 99)], 7, [.sl 2 [] .full, .sl 3 [] .full, .int .i64 0, .int .i64 0, .int .i64 0, .sl 3 [] .full, .nilmap]⟩ := rfl
theorem T101 : EE.T 101 = some ⟨.strct [(0, 25), (5, 30), (6, 99)], 7, [.sl 2 [] .full, .sl 3 [] .full, .int .i64 0, .int .i64 0, .int .i64 0, .sl 3 [] .full, .nilmap]⟩ := rfl
theorem T102 : EE.T 102 = some ⟨.fn, 1, [.nilfn]⟩ := rfl
theorem T103 : EE.T 103 = some ⟨.fn, 1, [.nilfn]⟩ := rfl
theorem T104 : EE.T 104 = some ⟨.fn, 1, [.nilfn]⟩ := rfl
theorem T105 : EE.T 105 = some ⟨.map 3 110, 1, [.nilmap]⟩ := rfl
theorem T106 : EE.T 106 = some ⟨.map 3 37, 1, [.nilmap]⟩ := rfl
theorem T107 : EE.T 107 = some ⟨.strct [(0, 105), (1, 4), (2, 106)], 3, [.nilmap, .bool false, .nilmap]⟩ := rfl
theorem T108 : EE.T 108 = some ⟨.strct [(0, 105), (1, 4), (2, 106)], 3, [.nilmap, .bool false, .nilmap]⟩ := rfl
theorem T109 : EE.T 109 = some ⟨.strct [(0, 3), (1, 37), (2, 9)], 3, [.int .i64 0, .sl 1 [] .full, .str []]⟩ := rfl
theorem T110 : EE.T 110 = some ⟨.strct [(0, 3), (1, 37), (2, 9)], 3, [.int .i64 0, .sl 1 [] .full, .str []]⟩ := rfl
theorem T112 : EE.T 112 = some ⟨.fn, 1, [.nilfn]⟩ := rfl
theorem T113 : EE.T 113 = some ⟨.fn, 1, [.nilfn]⟩ := rfl
theorem T114 : EE.T 114 = some ⟨.fn, 1, [.nilfn]⟩ := rfl
theorem T115 : EE.T 115 = some ⟨.fn, 1, [.nilfn]⟩ := rfl
theorem T116 : EE.T 116 = some ⟨.fn, 1, [.nilfn]⟩ := rfl
theorem T117 : EE.T 117 = some ⟨.fn, 1, [.nilfn]⟩ := rfl
theorem T118 : EE.T 118 = some ⟨.strct [(0, 3), (1, 3)], 2, [.int .i64 0, .int .i64 0]⟩ := rfl
theorem T119 : EE.T 119 = some ⟨.strct [(0, 3), (1, 3)], 2, [.int .i64 0, .int .i64 0]⟩ := rfl
theorem T120 : EE.T 120 = some ⟨.fn, 1, [.nilfn]⟩ := rfl
theorem T121 : EE.T 121 = some ⟨.fn, 1, [.nilfn]⟩ := rfl
theorem T122 : EE.T 122 = some ⟨.fn, 1, [.nilfn]⟩ := rfl
theorem T123 : EE.T 123 = some ⟨.fn, 1, [.nilfn]⟩ := rfl
theorem T124 : EE.T 124 = some ⟨.slice 4, 1, [.sl 1 [] .full]⟩ := rfl
theorem T125 : EE.T 125 = some ⟨.fn, 1, [.nilfn]⟩ := rfl
theorem T126 : EE.T 126 = some ⟨.fn, 1, [.nilfn]⟩ := rfl
theorem T127 : EE.T 127 = some ⟨.fn, 1, [.nilfn]⟩ := rfl
theorem T128 : EE.T 128 = some ⟨.fn, 1, [.nilfn]⟩ := rfl
theorem T129 : EE.T 129 = some ⟨.ptr 132, 1, [.nilp]⟩ := rfl
theorem T130 : EE.T 130 = some ⟨.slice 5, 1, [.sl 1 [] .full]⟩ := rfl
theorem T131 : EE.T 131 = some ⟨.strct [(0, 129), (1, 130)], 2, [.nilp, .sl 1 [] .full]⟩ := rfl
theorem T132 : EE.T 132 = some ⟨.strct [(0, 129), (1, 130)], 2, [.nilp, .sl 1 [] .full]⟩ := rfl
theorem T133 : EE.T 133 = some ⟨.iface, 1, [.nilif]⟩ := rfl
theorem T134 : EE.T 134 = some ⟨.iface, 1, [.nilif]⟩ := rfl
theorem T136 : EE.T 136 = some ⟨.fn, 1, [.nilfn]⟩ := rfl
theorem T137 : EE.T 137 = some ⟨.fn, 1, [.nilfn]⟩ := rfl
theorem T138 : EE.T 138 = some ⟨.fn, 1, [.nilfn]⟩ := rfl
theorem T139 : EE.T 139 = some ⟨.fn, 1, [.nilfn]⟩ := rfl
theorem T140 : EE.T 140 = some ⟨.fn, 1, [.nilfn]⟩ := rfl
theorem T142 : EE.T 142 = some ⟨.fn, 1, [.nilfn]⟩ := rfl
theorem T143 : EE.T 143 = some ⟨.fn, 1, [.nilfn]⟩ := rfl
theorem T144 : EE.T 144 = some ⟨.fn, 1, [.nilfn]⟩ := rfl
theorem T145 : EE.T 145 = some ⟨.fn, 1, [.nilfn]⟩ := rfl
theorem T146 : EE.T 146 = some ⟨.fn, 1, [.nilfn]⟩ := rfl
theorem T147 : EE.T 147 = some ⟨.fn, 1, [.nilfn]⟩ := rfl
theorem T148 : EE.T 148 = some ⟨.fn, 1, [.nilfn]⟩ := rfl
theorem T149 : EE.T 149 = some ⟨.fn, 1, [.nilfn]⟩ := rfl
theorem T150 : EE.T 150 = some ⟨.fn, 1, [.nilfn]⟩ := rfl
theorem T151 : EE.T 151 = some ⟨.fn, 1, [.nilfn]⟩ := rfl
theorem T152 : EE.T 152 = some ⟨.fn, 1, [.nilfn]⟩ := rfl
theorem T153 : EE.T 153 = some ⟨.fn, 1, [.nilfn]⟩ := rfl
theorem T154 : EE.T 154 = some ⟨.fn, 1, [.nilfn]⟩ := rfl
theorem T155 : EE.T 155 = some ⟨.map 3 3, 1, [.nilmap]⟩ := rfl
theorem T157 : EE.T 157 = some ⟨.ptr 5, 1, [.nilp]⟩ := rfl
theorem T158 : EE.T 158 = some ⟨.slice 37, 1, [.sl 1 [] .full]⟩ := rfl
theorem T159 : EE.T 159 = some ⟨.array 3 3, 3, [.int .i64 0, .int .i64 0, .int .i64 0]⟩ := rfl
theorem T160 : EE.T 160 = some ⟨.fn, 1, [.nilfn]⟩ := rfl
theorem T161 : EE.T 161 = some ⟨.int .u64, 1, [.int .u64 0]⟩ := rfl
theorem T162 : EE.T 162 = some ⟨.fn, 1, [.nilfn]⟩ := rfl
theorem T163 : EE.T 163 = some ⟨.fn, 1, [.nilfn]⟩ := rfl
theorem T164 : EE.T 164 = some ⟨.fn, 1, [.nilfn]⟩ := rfl
theorem T165 : EE.T 165 = some ⟨.fn, 1, [.nilfn]⟩ := rfl
theorem T166 : EE.T 166 = some ⟨.fn, 1, [.nilfn]⟩ := rfl
theorem T167 : EE.T 167 = some ⟨.fn, 1, [.nilfn]⟩ := rfl
theorem T168 : EE.T 168 = some ⟨.array 4 119, 8, [.int .i64 0, .int .i64 0, .int .i64 0, .int .i64 0, .int .i64 0, .int .i64 0, .int .i64 0, .int .i64 0]⟩ := rfl
theorem T169 : EE.T 169 = some ⟨.fn, 1, [.nilfn]⟩ := rfl
theorem T170 : EE.T 170 = some ⟨.map 172 4, 1, [.nilmap]⟩ := rfl
theorem T171 : EE.T 171 = some ⟨.strct [(0, 3), (1, 9)], 2, [.int .i64 0, .str []]⟩ := rfl
theorem T172 : EE.T 172 = some ⟨.strct [(0, 3), (1, 9)], 2, [.int .i64 0, .str []]⟩ := rfl
theorem T173 : EE.T 173 = some ⟨.fn, 1, [.nilfn]⟩ := rfl
theorem T174 : EE.T 174 = some ⟨.fn, 1, [.nilfn]⟩ := rfl
theorem T175 : EE.T 175 = some ⟨.fn, 1, [.nilfn]⟩ := rfl
theorem T176 : EE.T 176 = some ⟨.fn, 1, [.nilfn]⟩ := rfl
theorem T177 : EE.T 177 = some ⟨.fn, 1, [.nilfn]⟩ := rfl
theorem T178 : EE.T 178 = some ⟨.fn, 1, [.nilfn]⟩ := rfl
theorem T179 : EE.T 179 = some ⟨.array 2 3, 2, [.int .i64 0, .int .i64 0]⟩ := rfl
theorem T180 : EE.T 180 = some ⟨.array 3 179, 6, [.int .i64 0, .int .i64 0, .int .i64 0, .int .i64 0, .int .i64 0, .int .i64 0]⟩ := rfl
theorem T182 : EE.T 182 = some ⟨.fn, 1, [.nilfn]⟩ := rfl
theorem T183 : EE.T 183 = some ⟨.fn, 1, [.nilfn]⟩ := rfl
theorem T184 : EE.T 184 = some ⟨.fn, 1, [.nilfn]⟩ := rfl
theorem T185 : EE.T 185 = some ⟨.fn, 1, [.nilfn]⟩ := rfl
theorem T186 : EE.T 186 = some ⟨.fn, 1, [.nilfn]⟩ := rfl
theorem T187 : EE.T 187 = some ⟨.fn, 1, [.nilfn]⟩ := rfl
theorem T188 : EE.T 188 = some ⟨.fn, 1, [.nilfn]⟩ := rfl
theorem T189 : EE.T 189 = some ⟨.fn, 1, [.nilfn]⟩ := rfl
theorem T190 : EE.T 190 = some ⟨.fn, 1, [.nilfn]⟩ := rfl
theorem T191 : EE.T 191 = some ⟨.array 24 5, 24, [.int .u8 0, .int .u8 0, .int .u8 0, .int .u8 0, .int .u8 0, .int .u8 0, .int .u8 0, .int .u8 0, .int .u8 0, .int .u8 0, .int .u8 0, .int .u8 0, .int .u8 0, .int .u8 0, .int .u8 0, .int .u8 0, .int .u8 0, .int .u8 0, .int .u8 0, .int .u8 0, .int .u8 0, .int .u8 0, .int .u8 0, .int .u8 0]⟩ := rfl
theorem T192 : EE.T 192 = some ⟨.int .u64, 1, [.int .u64 0]⟩ := rfl
theorem T193 : EE.T 193 = some ⟨.fn, 1, [.nilfn]⟩ := rfl
theorem T194 : EE.T 194 = some ⟨.fn, 1, [.nilfn]⟩ := rfl
theorem T196 : EE.T 196 = some ⟨.fn, 1, [.nilfn]⟩ := rfl
theorem T197 : EE.T 197 = some ⟨.fn, 1, [.nilfn]⟩ := rfl
theorem T198 : EE.T 198 = some ⟨.fn, 1, [.nilfn]⟩ := rfl
theorem T199 : EE.T 199 = some ⟨.int .i64, 1, [.int .i64 0]⟩ := rfl
theorem T201 : EE.T 201 = some ⟨.fn, 1, [.nilfn]⟩ := rfl
theorem T202 : EE.T 202 = some ⟨.fn, 1, [.nilfn]⟩ := rfl
theorem T203 : EE.T 203 = some ⟨.fn, 1, [.nilfn]⟩ := rfl
theorem T204 : EE.T 204 = some ⟨.fn, 1, [.nilfn]⟩ := rfl
theorem T205 : EE.T 205 = some ⟨.fn, 1, [.nilfn]⟩ := rfl
theorem T206 : EE.T 206 = some ⟨.int .u32, 1, [.int .u32 0]⟩ := rfl
theorem T207 : EE.T 207 = some ⟨.fn, 1, [.nilfn]⟩ := rfl
theorem T208 : EE.T 208 = some ⟨.array 20 192, 20, [.int .u64 0, .int .u64 0, .int .u64 0, .int .u64 0, .int .u64 0, .int .u64 0, .int .u64 0, .int .u64 0, .int .u64 0, .int .u64 0, .int .u64 0, .int .u64 0, .int .u64 0, .int .u64 0, .int .u64 0, .int .u64 0, .int .u64 0, .int .u64 0, .int .u64 0, .int .u64 0]⟩ := rfl
theorem T209 : EE.T 209 = some ⟨.array 65 5, 65, [.int .u8 0, .int .u8 0, .int .u8 0, .int .u8 0, .int .u8 0, .int .u8 0, .int .u8 0, .int .u8 0, .int .u8 0, .int .u8 0, .int .u8 0, .int .u8 0, .int .u8 0, .int .u8 0, .int .u8 0, .int .u8 0, .int .u8 0, .int .u8 0, .int .u8 0, .int .u8 0, .int .u8 0, .int .u8 0, .int .u8 0, .int .u8 0, .int .u8 0, .int .u8 0, .int .u8 0, .int .u8 0, .int .u8 0, .int .u8 0, .int .u8 0, .int .u8 0, .int .u8 0, .int .u8 0, .int .u8 0, .int .u8 0, .int .u8 0, .int .u8 0, .int .u8 0, .int .u8 0, .int .u8 0, .int .u8 0, .int .u8 0, .int .u8 0, .int .u8 0, .int .u8 0, .int .u8 0, .int .u8 0, .int .u8 0, .int .u8 0, .int .u8 0, .int .u8 0, .int .u8 0, .int .u8 0, .int .u8 0, .int .u8 0, .int .u8 0, .int .u8 0, .int .u8 0, .int .u8 0, .int .u8 0, .int .u8 0, .int .u8 0, .int .u8 0, .int .u8 0]⟩ := rfl
theorem T210 : EE.T 210 = some ⟨.fn, 1, [.nilfn]⟩ := rfl
theorem T211 : EE.T 211 = some ⟨.int .u64, 1, [.int .u64 0]⟩ := rfl
theorem T212 : EE.T 212 = some ⟨.fn, 1, [.nilfn]⟩ := rfl
theorem T213 : EE.T 213 = some ⟨.fn, 1, [.nilfn]⟩ := rfl
theorem T214 : EE.T 214 = some ⟨.fn, 1, [.nilfn]⟩ := rfl
theorem T215 : EE.T 215 = some ⟨.ptr 3, 1, [.nilp]⟩ := rfl
theorem T216 : EE.T 216 = some ⟨.fn, 1, [.nilfn]⟩ := rfl
theorem T217 : EE.T 217 = some ⟨.ptr 211, 1, [.nilp]⟩ := rfl
theorem T219 : EE.T 219 = some ⟨.fn, 1, [.nilfn]⟩ := rfl
theorem T220 : EE.T 220 = some ⟨.array 32 5, 32, [.int .u8 0, .int .u8 0, .int .u8 0, .int .u8 0, .int .u8 0, .int .u8 0, .int .u8 0, .int .u8 0, .int .u8 0, .int .u8 0, .int .u8 0, .int .u8 0, .int .u8 0, .int .u8 0, .int .u8 0, .int .u8 0, .int .u8 0, .int .u8 0, .int .u8 0, .int .u8 0, .int .u8 0, .int .u8 0, .int .u8 0, .int .u8 0, .int .u8 0, .int .u8 0, .int .u8 0, .int .u8 0, .int .u8 0, .int .u8 0, .int .u8 0, .int .u8 0]⟩ := rfl
theorem T221 : EE.T 221 = some ⟨.array 64 5, 64, [.int .u8 0, .int .u8 0, .int .u8 0, .int .u8 0, .int .u8 0, .int .u8 0, .int .u8 0, .int .u8 0, .int .u8 0, .int .u8 0, .int .u8 0, .int .u8 0, .int .u8 0, .int .u8 0, .int .u8 0, .int .u8 0, .int .u8 0, .int .u8 0, .int .u8 0, .int .u8 0, .int .u8 0, .int .u8 0, .int .u8 0, .int .u8 0, .int .u8 0, .int .u8 0, .int .u8 0, .int .u8 0, .int .u8 0, .int .u8 0, .int .u8 0, .int .u8 0, .int .u8 0, .int .u8 0, .int .u8 0, .int .u8 0, .int .u8 0, .int .u8 0, .int .u8 0, .int .u8 0, .int .u8 0, .int .u8 0, .int .u8 0, .int .u8 0, .int .u8 0, .int .u8 0, .int .u8 0, .int .u8 0, .int .u8 0, .int .u8 0, .int .u8 0, .int .u8 0, .int .u8 0, .int .u8 0, .int .u8 0, .int .u8 0, .int .u8 0, .int .u8 0, .int .u8 0, .int .u8 0, .int .u8 0, .int .u8 0, .int .u8 0, .int .u8 0]⟩ := rfl
theorem T227 : EE.T 227 = some ⟨.fn, 1, [.nilfn]⟩ := rfl
theorem T230 : EE.T 230 = some ⟨.fn, 1, [.nilfn]⟩ := rfl
end Go.Pv.Ct
end
section
namespace Go.Pv.Ct
open Go.Pv
theorem ok3 : FnOk EE 3 16 [.tmp 2] (code Go.Proofs.Tryz.f3) where
  ex := ⟨Go.Proofs.Tryz.f3, Go.Proofs.Tryz.func3, by kernel_rfl, by kernel_rfl, by kernel_rfl, by kernel_rfl⟩
  code := by kernel_rfl
  res := by kernel_rfl
theorem ok4 : FnOk EE 4 51 [.tmp 2] (code Go.Proofs.Tryz.f4) where
  ex := ⟨Go.Proofs.Tryz.f4, Go.Proofs.Tryz.func4, by kernel_rfl, by kernel_rfl, by kernel_rfl, by kernel_rfl⟩
  code := by kernel_rfl
  res := by kernel_rfl
theorem ok5 : FnOk EE 5 52 [.tmp 6] (code Go.Proofs.Tryz.f5) where
  ex := ⟨Go.Proofs.Tryz.f5, Go.Proofs.Tryz.func5, by kernel_rfl, by kernel_rfl, by kernel_rfl, by kernel_rfl⟩
  code := by kernel_rfl
  res := by kernel_rfl
theorem ok6 : FnOk EE 6 118 [.tmp 2] (code Go.Proofs.Tryz.f6) where
  ex := ⟨Go.Proofs.Tryz.f6, Go.Proofs.Tryz.func6, by kernel_rfl, by kernel_rfl, by kernel_rfl, by kernel_rfl⟩
  code := by kernel_rfl
  res := by kernel_rfl
theorem ok7 : FnOk EE 7 83 [.tmp 2] (code Go.Proofs.Tryz.f7) where
  ex := ⟨Go.Proofs.Tryz.f7, Go.Proofs.Tryz.func7, by kernel_rfl, by kernel_rfl, by kernel_rfl, by kernel_rfl⟩
  code := by kernel_rfl
  res := by kernel_rfl
theorem ok9 : FnOk EE 9 42 [.tmp 2] (code Go.Proofs.Tryz.f9) where
  ex := ⟨Go.Proofs.Tryz.f9, Go.Proofs.Tryz.func9, by kernel_rfl, by kernel_rfl, by kernel_rfl, by kernel_rfl⟩
  code := by kernel_rfl
  res := by kernel_rfl
theorem ok10 : FnOk EE 10 79 [.tmp 4] (code Go.Proofs.Tryz.f10) where
  ex := ⟨Go.Proofs.Tryz.f10, Go.Proofs.Tryz.func10, by kernel_rfl, by kernel_rfl, by kernel_rfl, by kernel_rfl⟩
  code := by kernel_rfl
  res := by kernel_rfl
theorem ok11 : FnOk EE 11 58 [.tmp 4] (code Go.Proofs.Tryz.f11) where
  ex := ⟨Go.Proofs.Tryz.f11, Go.Proofs.Tryz.func11, by kernel_rfl, by kernel_rfl, by kernel_rfl, by kernel_rfl⟩
  code := by kernel_rfl
  res := by kernel_rfl
theorem ok12 : FnOk EE 12 39 [.tmp 2] (code Go.Proofs.Tryz.f12) where
  ex := ⟨Go.Proofs.Tryz.f12, Go.Proofs.Tryz.func12, by kernel_rfl, by kernel_rfl, by kernel_rfl, by kernel_rfl⟩
  code := by kernel_rfl
  res := by kernel_rfl
theorem ok13 : FnOk EE 13 70 [.tmp 2] (code Go.Proofs.Tryz.f13) where
  ex := ⟨Go.Proofs.Tryz.f13, Go.Proofs.Tryz.func13, by kernel_rfl, by kernel_rfl, by kernel_rfl, by kernel_rfl⟩
  code := by kernel_rfl
  res := by kernel_rfl
theorem ok14 : FnOk EE 14 44 [.tmp 2] (code Go.Proofs.Tryz.f14) where
  ex := ⟨Go.Proofs.Tryz.f14, Go.Proofs.Tryz.func14, by kernel_rfl, by kernel_rfl, by kernel_rfl, by kernel_rfl⟩
  code := by kernel_rfl
  res := by kernel_rfl
theorem ok15 : FnOk EE 15 49 [.tmp 0] (code Go.Proofs.Tryz.f15) where
  ex := ⟨Go.Proofs.Tryz.f15, Go.Proofs.Tryz.func15, by kernel_rfl, by kernel_rfl, by kernel_rfl, by kernel_rfl⟩
  code := by kernel_rfl
  res := by kernel_rfl
theorem ok16 : FnOk EE 16 17 [.tmp 2] (code Go.Proofs.Tryz.f16) where
  ex := ⟨Go.Proofs.Tryz.f16, Go.Proofs.Tryz.func16, by kernel_rfl, by kernel_rfl, by kernel_rfl, by kernel_rfl⟩
  code := by kernel_rfl
  res := by kernel_rfl
theorem ok17 : FnOk EE 17 31 [.tmp 6, .tmp 7, .tmp 8] (code Go.Proofs.Tryz.f17) where
  ex := ⟨Go.Proofs.Tryz.f17, Go.Proofs.Tryz.func17, by kernel_rfl, by kernel_rfl, by kernel_rfl, by kernel_rfl⟩
  code := by kernel_rfl
  res := by kernel_rfl
theorem ok18 : FnOk EE 18 51 [.tmp 6, .tmp 7, .tmp 8] (code Go.Proofs.Tryz.f18) where
  ex := ⟨Go.Proofs.Tryz.f18, Go.Proofs.Tryz.func18, by kernel_rfl, by kernel_rfl, by kernel_rfl, by kernel_rfl⟩
  code := by kernel_rfl
  res := by kernel_rfl
theorem ok19 : FnOk EE 19 9 [.tmp 4] (code Go.Proofs.Tryz.f19) where
  ex := ⟨Go.Proofs.Tryz.f19, Go.Proofs.Tryz.func19, by kernel_rfl, by kernel_rfl, by kernel_rfl, by kernel_rfl⟩
  code := by kernel_rfl
  res := by kernel_rfl
theorem ok20 : FnOk EE 20 26 [.tmp 4] (code Go.Proofs.Tryz.f20) where
  ex := ⟨Go.Proofs.Tryz.f20, Go.Proofs.Tryz.func20, by kernel_rfl, by kernel_rfl, by kernel_rfl, by kernel_rfl⟩
  code := by kernel_rfl
  res := by kernel_rfl
theorem ok21 : FnOk EE 21 19 [.tmp 4, .tmp 5] (code Go.Proofs.Tryz.f21) where
  ex := ⟨Go.Proofs.Tryz.f21, Go.Proofs.Tryz.func21, by kernel_rfl, by kernel_rfl, by kernel_rfl, by kernel_rfl⟩
  code := by kernel_rfl
  res := by kernel_rfl
theorem ok22 : FnOk EE 22 12 [.tmp 4, .tmp 5] (code Go.Proofs.Tryz.f22) where
  ex := ⟨Go.Proofs.Tryz.f22, Go.Proofs.Tryz.func22, by kernel_rfl, by kernel_rfl, by kernel_rfl, by kernel_rfl⟩
  code := by kernel_rfl
  res := by kernel_rfl
theorem ok23 : FnOk EE 23 10 [.tmp 4] (code Go.Proofs.Tryz.f23) where
  ex := ⟨Go.Proofs.Tryz.f23, Go.Proofs.Tryz.func23, by kernel_rfl, by kernel_rfl, by kernel_rfl, by kernel_rfl⟩
  code := by kernel_rfl
  res := by kernel_rfl
theorem ok24 : FnOk EE 24 26 [.tmp 4] (code Go.Proofs.Tryz.f24) where
  ex := ⟨Go.Proofs.Tryz.f24, Go.Proofs.Tryz.func24, by kernel_rfl, by kernel_rfl, by kernel_rfl, by kernel_rfl⟩
  code := by kernel_rfl
  res := by kernel_rfl
theorem ok25 : FnOk EE 25 33 [.tmp 6] (code Go.Proofs.Tryz.f25) where
  ex := ⟨Go.Proofs.Tryz.f25, Go.Proofs.Tryz.func25, by kernel_rfl, by kernel_rfl, by kernel_rfl, by kernel_rfl⟩
  code := by kernel_rfl
  res := by kernel_rfl
theorem ok26 : FnOk EE 26 17 [.tmp 6] (code Go.Proofs.Tryz.f26) where
  ex := ⟨Go.Proofs.Tryz.f26, Go.Proofs.Tryz.func26, by kernel_rfl, by kernel_rfl, by kernel_rfl, by kernel_rfl⟩
  code := by kernel_rfl
  res := by kernel_rfl
theorem ok27 : FnOk EE 27 8 [.cell 2 25] (code Go.Proofs.Tryz.f27) where
  ex := ⟨Go.Proofs.Tryz.f27, Go.Proofs.Tryz.func27, by kernel_rfl, by kernel_rfl, by kernel_rfl, by kernel_rfl⟩
  code := by kernel_rfl
  res := by kernel_rfl
theorem ok28 : FnOk EE 28 15 [.tmp 6] (code Go.Proofs.Tryz.f28) where
  ex := ⟨Go.Proofs.Tryz.f28, Go.Proofs.Tryz.func28, by kernel_rfl, by kernel_rfl, by kernel_rfl, by kernel_rfl⟩
  code := by kernel_rfl
  res := by kernel_rfl
theorem ok29 : FnOk EE 29 9 [.tmp 4] (code Go.Proofs.Tryz.f29) where
  ex := ⟨Go.Proofs.Tryz.f29, Go.Proofs.Tryz.func29, by kernel_rfl, by kernel_rfl, by kernel_rfl, by kernel_rfl⟩
  code := by kernel_rfl
  res := by kernel_rfl
theorem ok30 : FnOk EE 30 8 [.cell 2 36] (code Go.Proofs.Tryz.f30) where
  ex := ⟨Go.Proofs.Tryz.f30, Go.Proofs.Tryz.func30, by kernel_rfl, by kernel_rfl, by kernel_rfl, by kernel_rfl⟩
  code := by kernel_rfl
  res := by kernel_rfl
theorem ok31 : FnOk EE 31 17 [.tmp 6] (code Go.Proofs.Tryz.f31) where
  ex := ⟨Go.Proofs.Tryz.f31, Go.Proofs.Tryz.func31, by kernel_rfl, by kernel_rfl, by kernel_rfl, by kernel_rfl⟩
  code := by kernel_rfl
  res := by kernel_rfl
theorem ok32 : FnOk EE 32 17 [.tmp 6] (code Go.Proofs.Tryz.f32) where
  ex := ⟨Go.Proofs.Tryz.f32, Go.Proofs.Tryz.func32, by kernel_rfl, by kernel_rfl, by kernel_rfl, by kernel_rfl⟩
  code := by kernel_rfl
  res := by kernel_rfl
theorem ok33 : FnOk EE 33 17 [.tmp 6] (code Go.Proofs.Tryz.f33) where
  ex := ⟨Go.Proofs.Tryz.f33, Go.Proofs.Tryz.func33, by kernel_rfl, by kernel_rfl, by kernel_rfl, by kernel_rfl⟩
  code := by kernel_rfl
  res := by kernel_rfl
theorem ok34 : FnOk EE 34 81 [.tmp 2] (code Go.Proofs.Tryz.f34) where
  ex := ⟨Go.Proofs.Tryz.f34, Go.Proofs.Tryz.func34, by kernel_rfl, by kernel_rfl, by kernel_rfl, by kernel_rfl⟩
  code := by kernel_rfl
  res := by kernel_rfl
theorem ok35 : FnOk EE 35 44 [.tmp 4] (code Go.Proofs.Tryz.f35) where
  ex := ⟨Go.Proofs.Tryz.f35, Go.Proofs.Tryz.func35, by kernel_rfl, by kernel_rfl, by kernel_rfl, by kernel_rfl⟩
  code := by kernel_rfl
  res := by kernel_rfl
theorem ok36 : FnOk EE 36 38 [.tmp 4] (code Go.Proofs.Tryz.f36) where
  ex := ⟨Go.Proofs.Tryz.f36, Go.Proofs.Tryz.func36, by kernel_rfl, by kernel_rfl, by kernel_rfl, by kernel_rfl⟩
  code := by kernel_rfl
  res := by kernel_rfl
theorem ok37 : FnOk EE 37 9 [.tmp 2] (code Go.Proofs.Tryz.f37) where
  ex := ⟨Go.Proofs.Tryz.f37, Go.Proofs.Tryz.func37, by kernel_rfl, by kernel_rfl, by kernel_rfl, by kernel_rfl⟩
  code := by kernel_rfl
  res := by kernel_rfl
theorem ok38 : FnOk EE 38 100 [.tmp 2] (code Go.Proofs.Tryz.f38) where
  ex := ⟨Go.Proofs.Tryz.f38, Go.Proofs.Tryz.func38, by kernel_rfl, by kernel_rfl, by kernel_rfl, by kernel_rfl⟩
  code := by kernel_rfl
  res := by kernel_rfl
theorem ok39 : FnOk EE 39 92 [.tmp 4] (code Go.Proofs.Tryz.f39) where
  ex := ⟨Go.Proofs.Tryz.f39, Go.Proofs.Tryz.func39, by kernel_rfl, by kernel_rfl, by kernel_rfl, by kernel_rfl⟩
  code := by kernel_rfl
  res := by kernel_rfl
theorem ok40 : FnOk EE 40 16 [.tmp 2] (code Go.Proofs.Tryz.f40) where
  ex := ⟨Go.Proofs.Tryz.f40, Go.Proofs.Tryz.func40, by kernel_rfl, by kernel_rfl, by kernel_rfl, by kernel_rfl⟩
  code := by kernel_rfl
  res := by kernel_rfl
theorem ok41 : FnOk EE 41 42 [.tmp 4] (code Go.Proofs.Tryz.f41) where
  ex := ⟨Go.Proofs.Tryz.f41, Go.Proofs.Tryz.func41, by kernel_rfl, by kernel_rfl, by kernel_rfl, by kernel_rfl⟩
  code := by kernel_rfl
  res := by kernel_rfl
theorem ok42 : FnOk EE 42 38 [.tmp 4, .tmp 5, .tmp 6, .tmp 7] (code Go.Proofs.Tryz.f42) where
  ex := ⟨Go.Proofs.Tryz.f42, Go.Proofs.Tryz.func42, by kernel_rfl, by kernel_rfl, by kernel_rfl, by kernel_rfl⟩
  code := by kernel_rfl
  res := by kernel_rfl
theorem ok43 : FnOk EE 43 8 [.tmp 2] (code Go.Proofs.Tryz.f43) where
  ex := ⟨Go.Proofs.Tryz.f43, Go.Proofs.Tryz.func43, by kernel_rfl, by kernel_rfl, by kernel_rfl, by kernel_rfl⟩
  code := by kernel_rfl
  res := by kernel_rfl
theorem ok44 : FnOk EE 44 8 [.tmp 2] (code Go.Proofs.Tryz.f44) where
  ex := ⟨Go.Proofs.Tryz.f44, Go.Proofs.Tryz.func44, by kernel_rfl, by kernel_rfl, by kernel_rfl, by kernel_rfl⟩
  code := by kernel_rfl
  res := by kernel_rfl
theorem ok45 : FnOk EE 45 108 [.tmp 6, .tmp 7, .tmp 8] (code Go.Proofs.Tryz.f45) where
  ex := ⟨Go.Proofs.Tryz.f45, Go.Proofs.Tryz.func45, by kernel_rfl, by kernel_rfl, by kernel_rfl, by kernel_rfl⟩
  code := by kernel_rfl
  res := by kernel_rfl
theorem ok46 : FnOk EE 46 30 [.tmp 4, .tmp 5] (code Go.Proofs.Tryz.f46) where
  ex := ⟨Go.Proofs.Tryz.f46, Go.Proofs.Tryz.func46, by kernel_rfl, by kernel_rfl, by kernel_rfl, by kernel_rfl⟩
  code := by kernel_rfl
  res := by kernel_rfl
theorem ok47 : FnOk EE 47 46 [.tmp 4] (code Go.Proofs.Tryz.f47) where
  ex := ⟨Go.Proofs.Tryz.f47, Go.Proofs.Tryz.func47, by kernel_rfl, by kernel_rfl, by kernel_rfl, by kernel_rfl⟩
  code := by kernel_rfl
  res := by kernel_rfl
theorem ok48 : FnOk EE 48 20 [.tmp 4, .tmp 5] (code Go.Proofs.Tryz.f48) where
  ex := ⟨Go.Proofs.Tryz.f48, Go.Proofs.Tryz.func48, by kernel_rfl, by kernel_rfl, by kernel_rfl, by kernel_rfl⟩
  code := by kernel_rfl
  res := by kernel_rfl
theorem ok49 : FnOk EE 49 32 [.tmp 4] (code Go.Proofs.Tryz.f49) where
  ex := ⟨Go.Proofs.Tryz.f49, Go.Proofs.Tryz.func49, by kernel_rfl, by kernel_rfl, by kernel_rfl, by kernel_rfl⟩
  code := by kernel_rfl
  res := by kernel_rfl
theorem ok50 : FnOk EE 50 9 [.tmp 2] (code Go.Proofs.Tryz.f50) where
  ex := ⟨Go.Proofs.Tryz.f50, Go.Proofs.Tryz.func50, by kernel_rfl, by kernel_rfl, by kernel_rfl, by kernel_rfl⟩
  code := by kernel_rfl
  res := by kernel_rfl
theorem ok51 : FnOk EE 51 8 [.cell 2 36] (code Go.Proofs.Tryz.f51) where
  ex := ⟨Go.Proofs.Tryz.f51, Go.Proofs.Tryz.func51, by kernel_rfl, by kernel_rfl, by kernel_rfl, by kernel_rfl⟩
  code := by kernel_rfl
  res := by kernel_rfl
theorem ok52 : FnOk EE 52 28 [.tmp 4] (code Go.Proofs.Tryz.f52) where
  ex := ⟨Go.Proofs.Tryz.f52, Go.Proofs.Tryz.func52, by kernel_rfl, by kernel_rfl, by kernel_rfl, by kernel_rfl⟩
  code := by kernel_rfl
  res := by kernel_rfl
theorem ok53 : FnOk EE 53 52 [.tmp 4] (code Go.Proofs.Tryz.f53) where
  ex := ⟨Go.Proofs.Tryz.f53, Go.Proofs.Tryz.func53, by kernel_rfl, by kernel_rfl, by kernel_rfl, by kernel_rfl⟩
  code := by kernel_rfl
  res := by kernel_rfl
theorem ok54 : FnOk EE 54 25 [.tmp 4] (code Go.Proofs.Tryz.f54) where
  ex := ⟨Go.Proofs.Tryz.f54, Go.Proofs.Tryz.func54, by kernel_rfl, by kernel_rfl, by kernel_rfl, by kernel_rfl⟩
  code := by kernel_rfl
  res := by kernel_rfl
theorem ok55 : FnOk EE 55 43 [.tmp 6, .tmp 7] (code Go.Proofs.Tryz.f55) where
  ex := ⟨Go.Proofs.Tryz.f55, Go.Proofs.Tryz.func55, by kernel_rfl, by kernel_rfl, by kernel_rfl, by kernel_rfl⟩
  code := by kernel_rfl
  res := by kernel_rfl
theorem ok56 : FnOk EE 56 36 [.tmp 4] (code Go.Proofs.Tryz.f56) where
  ex := ⟨Go.Proofs.Tryz.f56, Go.Proofs.Tryz.func56, by kernel_rfl, by kernel_rfl, by kernel_rfl, by kernel_rfl⟩
  code := by kernel_rfl
  res := by kernel_rfl
theorem ok57 : FnOk EE 57 144 [.tmp 2] (code Go.Proofs.Tryz.f57) where
  ex := ⟨Go.Proofs.Tryz.f57, Go.Proofs.Tryz.func57, by kernel_rfl, by kernel_rfl, by kernel_rfl, by kernel_rfl⟩
  code := by kernel_rfl
  res := by kernel_rfl
theorem ok58 : FnOk EE 58 58 [.tmp 6, .tmp 7] (code Go.Proofs.Tryz.f58) where
  ex := ⟨Go.Proofs.Tryz.f58, Go.Proofs.Tryz.func58, by kernel_rfl, by kernel_rfl, by kernel_rfl, by kernel_rfl⟩
  code := by kernel_rfl
  res := by kernel_rfl
theorem ok59 : FnOk EE 59 52 [.tmp 2] (code Go.Proofs.Tryz.f59) where
  ex := ⟨Go.Proofs.Tryz.f59, Go.Proofs.Tryz.func59, by kernel_rfl, by kernel_rfl, by kernel_rfl, by kernel_rfl⟩
  code := by kernel_rfl
  res := by kernel_rfl
theorem ok60 : FnOk EE 60 9 [.tmp 4] (code Go.Proofs.Tryz.f60) where
  ex := ⟨Go.Proofs.Tryz.f60, Go.Proofs.Tryz.func60, by kernel_rfl, by kernel_rfl, by kernel_rfl, by kernel_rfl⟩
  code := by kernel_rfl
  res := by kernel_rfl
theorem ok61 : FnOk EE 61 6 [.tmp 2] (code Go.Proofs.Tryz.f61) where
  ex := ⟨Go.Proofs.Tryz.f61, Go.Proofs.Tryz.func61, by kernel_rfl, by kernel_rfl, by kernel_rfl, by kernel_rfl⟩
  code := by kernel_rfl
  res := by kernel_rfl
theorem ok62 : FnOk EE 62 9 [.tmp 2] (code Go.Proofs.Tryz.f62) where
  ex := ⟨Go.Proofs.Tryz.f62, Go.Proofs.Tryz.func62, by kernel_rfl, by kernel_rfl, by kernel_rfl, by kernel_rfl⟩
  code := by kernel_rfl
  res := by kernel_rfl
theorem ok63 : FnOk EE 63 49 [.tmp 2] (code Go.Proofs.Tryz.f63) where
  ex := ⟨Go.Proofs.Tryz.f63, Go.Proofs.Tryz.func63, by kernel_rfl, by kernel_rfl, by kernel_rfl, by kernel_rfl⟩
  code := by kernel_rfl
  res := by kernel_rfl
theorem ok64 : FnOk EE 64 9 [.tmp 4] (code Go.Proofs.Tryz.f64) where
  ex := ⟨Go.Proofs.Tryz.f64, Go.Proofs.Tryz.func64, by kernel_rfl, by kernel_rfl, by kernel_rfl, by kernel_rfl⟩
  code := by kernel_rfl
  res := by kernel_rfl
theorem ok65 : FnOk EE 65 9 [.tmp 3] (code Go.Proofs.Tryz.f65) where
  ex := ⟨Go.Proofs.Tryz.f65, Go.Proofs.Tryz.func65, by kernel_rfl, by kernel_rfl, by kernel_rfl, by kernel_rfl⟩
  code := by kernel_rfl
  res := by kernel_rfl
theorem ok66 : FnOk EE 66 13 [.tmp 4] (code Go.Proofs.Tryz.f66) where
  ex := ⟨Go.Proofs.Tryz.f66, Go.Proofs.Tryz.func66, by kernel_rfl, by kernel_rfl, by kernel_rfl, by kernel_rfl⟩
  code := by kernel_rfl
  res := by kernel_rfl
theorem ok67 : FnOk EE 67 49 [.tmp 2] (code Go.Proofs.Tryz.f67) where
  ex := ⟨Go.Proofs.Tryz.f67, Go.Proofs.Tryz.func67, by kernel_rfl, by kernel_rfl, by kernel_rfl, by kernel_rfl⟩
  code := by kernel_rfl
  res := by kernel_rfl
theorem ok68 : FnOk EE 68 51 [.tmp 2] (code Go.Proofs.Tryz.f68) where
  ex := ⟨Go.Proofs.Tryz.f68, Go.Proofs.Tryz.func68, by kernel_rfl, by kernel_rfl, by kernel_rfl, by kernel_rfl⟩
  code := by kernel_rfl
  res := by kernel_rfl
theorem ok69 : FnOk EE 69 6 [.tmp 2] (code Go.Proofs.Tryz.f69) where
  ex := ⟨Go.Proofs.Tryz.f69, Go.Proofs.Tryz.func69, by kernel_rfl, by kernel_rfl, by kernel_rfl, by kernel_rfl⟩
  code := by kernel_rfl
  res := by kernel_rfl
theorem ok70 : FnOk EE 70 33 [.tmp 2] (code Go.Proofs.Tryz.f70) where
  ex := ⟨Go.Proofs.Tryz.f70, Go.Proofs.Tryz.func70, by kernel_rfl, by kernel_rfl, by kernel_rfl, by kernel_rfl⟩
  code := by kernel_rfl
  res := by kernel_rfl
theorem ok71 : FnOk EE 71 7 [.tmp 2] (code Go.Proofs.Tryz.f71) where
  ex := ⟨Go.Proofs.Tryz.f71, Go.Proofs.Tryz.func71, by kernel_rfl, by kernel_rfl, by kernel_rfl, by kernel_rfl⟩
  code := by kernel_rfl
  res := by kernel_rfl
theorem ok72 : FnOk EE 72 43 [.tmp 2] (code Go.Proofs.Tryz.f72) where
  ex := ⟨Go.Proofs.Tryz.f72, Go.Proofs.Tryz.func72, by kernel_rfl, by kernel_rfl, by kernel_rfl, by kernel_rfl⟩
  code := by kernel_rfl
  res := by kernel_rfl
theorem ok73 : FnOk EE 73 18 [.tmp 2] (code Go.Proofs.Tryz.f73) where
  ex := ⟨Go.Proofs.Tryz.f73, Go.Proofs.Tryz.func73, by kernel_rfl, by kernel_rfl, by kernel_rfl, by kernel_rfl⟩
  code := by kernel_rfl
  res := by kernel_rfl
theorem ok74 : FnOk EE 74 114 [.tmp 4, .tmp 5, .tmp 6] (code Go.Proofs.Tryz.f74) where
  ex := ⟨Go.Proofs.Tryz.f74, Go.Proofs.Tryz.func74, by kernel_rfl, by kernel_rfl, by kernel_rfl, by kernel_rfl⟩
  code := by kernel_rfl
  res := by kernel_rfl
theorem ok75 : FnOk EE 75 11 [.tmp 4] (code Go.Proofs.Tryz.f75) where
  ex := ⟨Go.Proofs.Tryz.f75, Go.Proofs.Tryz.func75, by kernel_rfl, by kernel_rfl, by kernel_rfl, by kernel_rfl⟩
  code := by kernel_rfl
  res := by kernel_rfl
theorem ok76 : FnOk EE 76 40 [.tmp 4, .tmp 5] (code Go.Proofs.Tryz.f76) where
  ex := ⟨Go.Proofs.Tryz.f76, Go.Proofs.Tryz.func76, by kernel_rfl, by kernel_rfl, by kernel_rfl, by kernel_rfl⟩
  code := by kernel_rfl
  res := by kernel_rfl
theorem ok77 : FnOk EE 77 7 [.tmp 2] (code Go.Proofs.Tryz.f77) where
  ex := ⟨Go.Proofs.Tryz.f77, Go.Proofs.Tryz.func77, by kernel_rfl, by kernel_rfl, by kernel_rfl, by kernel_rfl⟩
  code := by kernel_rfl
  res := by kernel_rfl
theorem ok78 : FnOk EE 78 6 [.tmp 4] (code Go.Proofs.Tryz.f78) where
  ex := ⟨Go.Proofs.Tryz.f78, Go.Proofs.Tryz.func78, by kernel_rfl, by kernel_rfl, by kernel_rfl, by kernel_rfl⟩
  code := by kernel_rfl
  res := by kernel_rfl
theorem ok79 : FnOk EE 79 9 [] (code Go.Proofs.Tryz.f79) where
  ex := ⟨Go.Proofs.Tryz.f79, Go.Proofs.Tryz.func79, by kernel_rfl, by kernel_rfl, by kernel_rfl, by kernel_rfl⟩
  code := by kernel_rfl
  res := by kernel_rfl
theorem ok81 : FnOk EE 81 20 [.tmp 4] (code Go.Proofs.Tryz.f81) where
  ex := ⟨Go.Proofs.Tryz.f81, Go.Proofs.Tryz.func81, by kernel_rfl, by kernel_rfl, by kernel_rfl, by kernel_rfl⟩
  code := by kernel_rfl
  res := by kernel_rfl
theorem ok82 : FnOk EE 82 143 [.tmp 2] (code Go.Proofs.Tryz.f82) where
  ex := ⟨Go.Proofs.Tryz.f82, Go.Proofs.Tryz.func82, by kernel_rfl, by kernel_rfl, by kernel_rfl, by kernel_rfl⟩
  code := by kernel_rfl
  res := by kernel_rfl
theorem ok83 : FnOk EE 83 27 [.tmp 2] (code Go.Proofs.Tryz.f83) where
  ex := ⟨Go.Proofs.Tryz.f83, Go.Proofs.Tryz.func83, by kernel_rfl, by kernel_rfl, by kernel_rfl, by kernel_rfl⟩
  code := by kernel_rfl
  res := by kernel_rfl
theorem ok84 : FnOk EE 84 8 [.tmp 2] (code Go.Proofs.Tryz.f84) where
  ex := ⟨Go.Proofs.Tryz.f84, Go.Proofs.Tryz.func84, by kernel_rfl, by kernel_rfl, by kernel_rfl, by kernel_rfl⟩
  code := by kernel_rfl
  res := by kernel_rfl
theorem ok85 : FnOk EE 85 33 [.tmp 6] (code Go.Proofs.Tryz.f85) where
  ex := ⟨Go.Proofs.Tryz.f85, Go.Proofs.Tryz.func85, by kernel_rfl, by kernel_rfl, by kernel_rfl, by kernel_rfl⟩
  code := by kernel_rfl
  res := by kernel_rfl
theorem ok86 : FnOk EE 86 31 [.tmp 2] (code Go.Proofs.Tryz.f86) where
  ex := ⟨Go.Proofs.Tryz.f86, Go.Proofs.Tryz.func86, by kernel_rfl, by kernel_rfl, by kernel_rfl, by kernel_rfl⟩
  code := by kernel_rfl
  res := by kernel_rfl
theorem ok87 : FnOk EE 87 60 [.tmp 2] (code Go.Proofs.Tryz.f87) where
  ex := ⟨Go.Proofs.Tryz.f87, Go.Proofs.Tryz.func87, by kernel_rfl, by kernel_rfl, by kernel_rfl, by kernel_rfl⟩
  code := by kernel_rfl
  res := by kernel_rfl
theorem ok88 : FnOk EE 88 87 [.tmp 4] (code Go.Proofs.Tryz.f88) where
  ex := ⟨Go.Proofs.Tryz.f88, Go.Proofs.Tryz.func88, by kernel_rfl, by kernel_rfl, by kernel_rfl, by kernel_rfl⟩
  code := by kernel_rfl
  res := by kernel_rfl
theorem ok89 : FnOk EE 89 17 [.tmp 6] (code Go.Proofs.Tryz.f89) where
  ex := ⟨Go.Proofs.Tryz.f89, Go.Proofs.Tryz.func89, by kernel_rfl, by kernel_rfl, by kernel_rfl, by kernel_rfl⟩
  code := by kernel_rfl
  res := by kernel_rfl
theorem ok90 : FnOk EE 90 19 [.tmp 4] (code Go.Proofs.Tryz.f90) where
  ex := ⟨Go.Proofs.Tryz.f90, Go.Proofs.Tryz.func90, by kernel_rfl, by kernel_rfl, by kernel_rfl, by kernel_rfl⟩
  code := by kernel_rfl
  res := by kernel_rfl
theorem ok91 : FnOk EE 91 19 [.tmp 4] (code Go.Proofs.Tryz.f91) where
  ex := ⟨Go.Proofs.Tryz.f91, Go.Proofs.Tryz.func91, by kernel_rfl, by kernel_rfl, by kernel_rfl, by kernel_rfl⟩
  code := by kernel_rfl
  res := by kernel_rfl
theorem ok92 : FnOk EE 92 9 [.tmp 2] (code Go.Proofs.Tryz.f92) where
  ex := ⟨Go.Proofs.Tryz.f92, Go.Proofs.Tryz.func92, by kernel_rfl, by kernel_rfl, by kernel_rfl, by kernel_rfl⟩
  code := by kernel_rfl
  res := by kernel_rfl
theorem ok94 : FnOk EE 94 12 [.tmp 2] (code Go.Proofs.Tryz.f94) where
  ex := ⟨Go.Proofs.Tryz.f94, Go.Proofs.Tryz.func94, by kernel_rfl, by kernel_rfl, by kernel_rfl, by kernel_rfl⟩
  code := by kernel_rfl
  res := by kernel_rfl
theorem ok95 : FnOk EE 95 31 [.tmp 2] (code Go.Proofs.Tryz.f95) where
  ex := ⟨Go.Proofs.Tryz.f95, Go.Proofs.Tryz.func95, by kernel_rfl, by kernel_rfl, by kernel_rfl, by kernel_rfl⟩
  code := by kernel_rfl
  res := by kernel_rfl
theorem ok96 : FnOk EE 96 30 [.tmp 2] (code Go.Proofs.Tryz.f96) where
  ex := ⟨Go.Proofs.Tryz.f96, Go.Proofs.Tryz.func96, by kernel_rfl, by kernel_rfl, by kernel_rfl, by kernel_rfl⟩
  code := by kernel_rfl
  res := by kernel_rfl
theorem ok97 : FnOk EE 97 20 [.tmp 2] (code Go.Proofs.Tryz.f97) where
  ex := ⟨Go.Proofs.Tryz.f97, Go.Proofs.Tryz.func97, by kernel_rfl, by kernel_rfl, by kernel_rfl, by kernel_rfl⟩
  code := by kernel_rfl
  res := by kernel_rfl
theorem ok98 : FnOk EE 98 21 [.tmp 2] (code Go.Proofs.Tryz.f98) where
  ex := ⟨Go.Proofs.Tryz.f98, Go.Proofs.Tryz.func98, by kernel_rfl, by kernel_rfl, by kernel_rfl, by kernel_rfl⟩
  code := by kernel_rfl
  res := by kernel_rfl
theorem ok99 : FnOk EE 99 19 [.tmp 4, .tmp 5] (code Go.Proofs.Tryz.f99) where
  ex := ⟨Go.Proofs.Tryz.f99, Go.Proofs.Tryz.func99, by kernel_rfl, by kernel_rfl, by kernel_rfl, by kernel_rfl⟩
  code := by kernel_rfl
  res := by kernel_rfl
theorem ok100 : FnOk EE 100 5 [.tmp 2] (code Go.Proofs.Tryz.f100) where
  ex := ⟨Go.Proofs.Tryz.f100, Go.Proofs.Tryz.func100, by kernel_rfl, by kernel_rfl, by kernel_rfl, by kernel_rfl⟩
  code := by kernel_rfl
  res := by kernel_rfl
theorem ok101 : FnOk EE 101 17 [.tmp 4] (code Go.Proofs.Tryz.f101) where
  ex := ⟨Go.Proofs.Tryz.f101, Go.Proofs.Tryz.func101, by kernel_rfl, by kernel_rfl, by kernel_rfl, by kernel_rfl⟩
  code := by kernel_rfl
  res := by kernel_rfl
theorem ok103 : FnOk EE 103 9 [.tmp 4] (code Go.Proofs.Tryz.f103) where
  ex := ⟨Go.Proofs.Tryz.f103, Go.Proofs.Tryz.func103, by kernel_rfl, by kernel_rfl, by kernel_rfl, by kernel_rfl⟩
  code := by kernel_rfl
  res := by kernel_rfl
theorem ok104 : FnOk EE 104 9 [.tmp 4] (code Go.Proofs.Tryz.f104) where
  ex := ⟨Go.Proofs.Tryz.f104, Go.Proofs.Tryz.func104, by kernel_rfl, by kernel_rfl, by kernel_rfl, by kernel_rfl⟩
  code := by kernel_rfl
  res := by kernel_rfl
theorem ok105 : FnOk EE 105 9 [.tmp 2] (code Go.Proofs.Tryz.f105) where
  ex := ⟨Go.Proofs.Tryz.f105, Go.Proofs.Tryz.func105, by kernel_rfl, by kernel_rfl, by kernel_rfl, by kernel_rfl⟩
  code := by kernel_rfl
  res := by kernel_rfl
theorem ok106 : FnOk EE 106 36 [.tmp 2] (code Go.Proofs.Tryz.f106) where
  ex := ⟨Go.Proofs.Tryz.f106, Go.Proofs.Tryz.func106, by kernel_rfl, by kernel_rfl, by kernel_rfl, by kernel_rfl⟩
  code := by kernel_rfl
  res := by kernel_rfl
theorem ok107 : FnOk EE 107 20 [.tmp 2] (code Go.Proofs.Tryz.f107) where
  ex := ⟨Go.Proofs.Tryz.f107, Go.Proofs.Tryz.func107, by kernel_rfl, by kernel_rfl, by kernel_rfl, by kernel_rfl⟩
  code := by kernel_rfl
  res := by kernel_rfl
theorem ok108 : FnOk EE 108 3 [.tmp 2] (code Go.Proofs.Tryz.f108) where
  ex := ⟨Go.Proofs.Tryz.f108, Go.Proofs.Tryz.func108, by kernel_rfl, by kernel_rfl, by kernel_rfl, by kernel_rfl⟩
  code := by kernel_rfl
  res := by kernel_rfl
theorem ok109 : FnOk EE 109 27 [.tmp 3] (code Go.Proofs.Tryz.f109) where
  ex := ⟨Go.Proofs.Tryz.f109, Go.Proofs.Tryz.func109, by kernel_rfl, by kernel_rfl, by kernel_rfl, by kernel_rfl⟩
  code := by kernel_rfl
  res := by kernel_rfl
theorem ok110 : FnOk EE 110 26 [.tmp 4] (code Go.Proofs.Tryz.f110) where
  ex := ⟨Go.Proofs.Tryz.f110, Go.Proofs.Tryz.func110, by kernel_rfl, by kernel_rfl, by kernel_rfl, by kernel_rfl⟩
  code := by kernel_rfl
  res := by kernel_rfl
theorem ok111 : FnOk EE 111 12 [.tmp 4] (code Go.Proofs.Tryz.f111) where
  ex := ⟨Go.Proofs.Tryz.f111, Go.Proofs.Tryz.func111, by kernel_rfl, by kernel_rfl, by kernel_rfl, by kernel_rfl⟩
  code := by kernel_rfl
  res := by kernel_rfl
theorem ok112 : FnOk EE 112 39 [] (code Go.Proofs.Tryz.f112) where
  ex := ⟨Go.Proofs.Tryz.f112, Go.Proofs.Tryz.func112, by kernel_rfl, by kernel_rfl, by kernel_rfl, by kernel_rfl⟩
  code := by kernel_rfl
  res := by kernel_rfl
theorem ok113 : FnOk EE 113 63 [] (code Go.Proofs.Tryz.f113) where
  ex := ⟨Go.Proofs.Tryz.f113, Go.Proofs.Tryz.func113, by kernel_rfl, by kernel_rfl, by kernel_rfl, by kernel_rfl⟩
  code := by kernel_rfl
  res := by kernel_rfl
theorem ok114 : FnOk EE 114 6 [.tmp 2] (code Go.Proofs.Tryz.f114) where
  ex := ⟨Go.Proofs.Tryz.f114, Go.Proofs.Tryz.func114, by kernel_rfl, by kernel_rfl, by kernel_rfl, by kernel_rfl⟩
  code := by kernel_rfl
  res := by kernel_rfl
theorem ok115 : FnOk EE 115 6 [.tmp 0] (code Go.Proofs.Tryz.f115) where
  ex := ⟨Go.Proofs.Tryz.f115, Go.Proofs.Tryz.func115, by kernel_rfl, by kernel_rfl, by kernel_rfl, by kernel_rfl⟩
  code := by kernel_rfl
  res := by kernel_rfl
theorem ok116 : FnOk EE 116 54 [.tmp 2] (code Go.Proofs.Tryz.f116) where
  ex := ⟨Go.Proofs.Tryz.f116, Go.Proofs.Tryz.func116, by kernel_rfl, by kernel_rfl, by kernel_rfl, by kernel_rfl⟩
  code := by kernel_rfl
  res := by kernel_rfl
theorem ok117 : FnOk EE 117 24 [.tmp 4] (code Go.Proofs.Tryz.f117) where
  ex := ⟨Go.Proofs.Tryz.f117, Go.Proofs.Tryz.func117, by kernel_rfl, by kernel_rfl, by kernel_rfl, by kernel_rfl⟩
  code := by kernel_rfl
  res := by kernel_rfl
theorem ok118 : FnOk EE 118 31 [.tmp 4] (code Go.Proofs.Tryz.f118) where
  ex := ⟨Go.Proofs.Tryz.f118, Go.Proofs.Tryz.func118, by kernel_rfl, by kernel_rfl, by kernel_rfl, by kernel_rfl⟩
  code := by kernel_rfl
  res := by kernel_rfl
theorem ok119 : FnOk EE 119 7 [.cell 2 34] (code Go.Proofs.Tryz.f119) where
  ex := ⟨Go.Proofs.Tryz.f119, Go.Proofs.Tryz.func119, by kernel_rfl, by kernel_rfl, by kernel_rfl, by kernel_rfl⟩
  code := by kernel_rfl
  res := by kernel_rfl
theorem ok120 : FnOk EE 120 32 [.tmp 2] (code Go.Proofs.Tryz.f120) where
  ex := ⟨Go.Proofs.Tryz.f120, Go.Proofs.Tryz.func120, by kernel_rfl, by kernel_rfl, by kernel_rfl, by kernel_rfl⟩
  code := by kernel_rfl
  res := by kernel_rfl
theorem ok121 : FnOk EE 121 67 [.tmp 4] (code Go.Proofs.Tryz.f121) where
  ex := ⟨Go.Proofs.Tryz.f121, Go.Proofs.Tryz.func121, by kernel_rfl, by kernel_rfl, by kernel_rfl, by kernel_rfl⟩
  code := by kernel_rfl
  res := by kernel_rfl
theorem ok122 : FnOk EE 122 16 [.tmp 6] (code Go.Proofs.Tryz.f122) where
  ex := ⟨Go.Proofs.Tryz.f122, Go.Proofs.Tryz.func122, by kernel_rfl, by kernel_rfl, by kernel_rfl, by kernel_rfl⟩
  code := by kernel_rfl
  res := by kernel_rfl
theorem ok123 : FnOk EE 123 9 [.tmp 4] (code Go.Proofs.Tryz.f123) where
  ex := ⟨Go.Proofs.Tryz.f123, Go.Proofs.Tryz.func123, by kernel_rfl, by kernel_rfl, by kernel_rfl, by kernel_rfl⟩
  code := by kernel_rfl
  res := by kernel_rfl
theorem ok124 : FnOk EE 124 30 [.tmp 2] (code Go.Proofs.Tryz.f124) where
  ex := ⟨Go.Proofs.Tryz.f124, Go.Proofs.Tryz.func124, by kernel_rfl, by kernel_rfl, by kernel_rfl, by kernel_rfl⟩
  code := by kernel_rfl
  res := by kernel_rfl
theorem ok125 : FnOk EE 125 76 [.tmp 2] (code Go.Proofs.Tryz.f125) where
  ex := ⟨Go.Proofs.Tryz.f125, Go.Proofs.Tryz.func125, by kernel_rfl, by kernel_rfl, by kernel_rfl, by kernel_rfl⟩
  code := by kernel_rfl
  res := by kernel_rfl
theorem ok126 : FnOk EE 126 25 [.tmp 4] (code Go.Proofs.Tryz.f126) where
  ex := ⟨Go.Proofs.Tryz.f126, Go.Proofs.Tryz.func126, by kernel_rfl, by kernel_rfl, by kernel_rfl, by kernel_rfl⟩
  code := by kernel_rfl
  res := by kernel_rfl
theorem ok127 : FnOk EE 127 17 [.tmp 4] (code Go.Proofs.Tryz.f127) where
  ex := ⟨Go.Proofs.Tryz.f127, Go.Proofs.Tryz.func127, by kernel_rfl, by kernel_rfl, by kernel_rfl, by kernel_rfl⟩
  code := by kernel_rfl
  res := by kernel_rfl
theorem ok128 : FnOk EE 128 79 [.cell 2 34] (code Go.Proofs.Tryz.f128) where
  ex := ⟨Go.Proofs.Tryz.f128, Go.Proofs.Tryz.func128, by kernel_rfl, by kernel_rfl, by kernel_rfl, by kernel_rfl⟩
  code := by kernel_rfl
  res := by kernel_rfl
theorem ok129 : FnOk EE 129 9 [.tmp 4] (code Go.Proofs.Tryz.f129) where
  ex := ⟨Go.Proofs.Tryz.f129, Go.Proofs.Tryz.func129, by kernel_rfl, by kernel_rfl, by kernel_rfl, by kernel_rfl⟩
  code := by kernel_rfl
  res := by kernel_rfl
theorem ok130 : FnOk EE 130 18 [.tmp 2] (code Go.Proofs.Tryz.f130) where
  ex := ⟨Go.Proofs.Tryz.f130, Go.Proofs.Tryz.func130, by kernel_rfl, by kernel_rfl, by kernel_rfl, by kernel_rfl⟩
  code := by kernel_rfl
  res := by kernel_rfl
theorem ok131 : FnOk EE 131 21 [.tmp 3] (code Go.Proofs.Tryz.f131) where
  ex := ⟨Go.Proofs.Tryz.f131, Go.Proofs.Tryz.func131, by kernel_rfl, by kernel_rfl, by kernel_rfl, by kernel_rfl⟩
  code := by kernel_rfl
  res := by kernel_rfl
theorem ok132 : FnOk EE 132 31 [.tmp 2] (code Go.Proofs.Tryz.f132) where
  ex := ⟨Go.Proofs.Tryz.f132, Go.Proofs.Tryz.func132, by kernel_rfl, by kernel_rfl, by kernel_rfl, by kernel_rfl⟩
  code := by kernel_rfl
  res := by kernel_rfl
theorem ok133 : FnOk EE 133 37 [.tmp 5] (code Go.Proofs.Tryz.f133) where
  ex := ⟨Go.Proofs.Tryz.f133, Go.Proofs.Tryz.func133, by kernel_rfl, by kernel_rfl, by kernel_rfl, by kernel_rfl⟩
  code := by kernel_rfl
  res := by kernel_rfl
theorem ok134 : FnOk EE 134 49 [.tmp 5] (code Go.Proofs.Tryz.f134) where
  ex := ⟨Go.Proofs.Tryz.f134, Go.Proofs.Tryz.func134, by kernel_rfl, by kernel_rfl, by kernel_rfl, by kernel_rfl⟩
  code := by kernel_rfl
  res := by kernel_rfl
theorem ok135 : FnOk EE 135 20 [] (code Go.Proofs.Tryz.f135) where
  ex := ⟨Go.Proofs.Tryz.f135, Go.Proofs.Tryz.func135, by kernel_rfl, by kernel_rfl, by kernel_rfl, by kernel_rfl⟩
  code := by kernel_rfl
  res := by kernel_rfl
theorem ok136 : FnOk EE 136 5 [.tmp 2] (code Go.Proofs.Tryz.f136) where
  ex := ⟨Go.Proofs.Tryz.f136, Go.Proofs.Tryz.func136, by kernel_rfl, by kernel_rfl, by kernel_rfl, by kernel_rfl⟩
  code := by kernel_rfl
  res := by kernel_rfl
theorem ok137 : FnOk EE 137 27 [.tmp 4] (code Go.Proofs.Tryz.f137) where
  ex := ⟨Go.Proofs.Tryz.f137, Go.Proofs.Tryz.func137, by kernel_rfl, by kernel_rfl, by kernel_rfl, by kernel_rfl⟩
  code := by kernel_rfl
  res := by kernel_rfl
theorem ok138 : FnOk EE 138 26 [.cell 2 159] (code Go.Proofs.Tryz.f138) where
  ex := ⟨Go.Proofs.Tryz.f138, Go.Proofs.Tryz.func138, by kernel_rfl, by kernel_rfl, by kernel_rfl, by kernel_rfl⟩
  code := by kernel_rfl
  res := by kernel_rfl
theorem ok139 : FnOk EE 139 53 [] (code Go.Proofs.Tryz.f139) where
  ex := ⟨Go.Proofs.Tryz.f139, Go.Proofs.Tryz.func139, by kernel_rfl, by kernel_rfl, by kernel_rfl, by kernel_rfl⟩
  code := by kernel_rfl
  res := by kernel_rfl
theorem ok140 : FnOk EE 140 220 [] (code Go.Proofs.Tryz.f140) where
  ex := ⟨Go.Proofs.Tryz.f140, Go.Proofs.Tryz.func140, by kernel_rfl, by kernel_rfl, by kernel_rfl, by kernel_rfl⟩
  code := by kernel_rfl
  res := by kernel_rfl
theorem ok141 : FnOk EE 141 21 [.tmp 2] (code Go.Proofs.Tryz.f141) where
  ex := ⟨Go.Proofs.Tryz.f141, Go.Proofs.Tryz.func141, by kernel_rfl, by kernel_rfl, by kernel_rfl, by kernel_rfl⟩
  code := by kernel_rfl
  res := by kernel_rfl
theorem ok142 : FnOk EE 142 40 [.tmp 2] (code Go.Proofs.Tryz.f142) where
  ex := ⟨Go.Proofs.Tryz.f142, Go.Proofs.Tryz.func142, by kernel_rfl, by kernel_rfl, by kernel_rfl, by kernel_rfl⟩
  code := by kernel_rfl
  res := by kernel_rfl
theorem ok143 : FnOk EE 143 79 [.cell 6 34] (code Go.Proofs.Tryz.f143) where
  ex := ⟨Go.Proofs.Tryz.f143, Go.Proofs.Tryz.func143, by kernel_rfl, by kernel_rfl, by kernel_rfl, by kernel_rfl⟩
  code := by kernel_rfl
  res := by kernel_rfl
theorem ok144 : FnOk EE 144 41 [.tmp 8] (code Go.Proofs.Tryz.f144) where
  ex := ⟨Go.Proofs.Tryz.f144, Go.Proofs.Tryz.func144, by kernel_rfl, by kernel_rfl, by kernel_rfl, by kernel_rfl⟩
  code := by kernel_rfl
  res := by kernel_rfl
theorem ok145 : FnOk EE 145 45 [.tmp 4] (code Go.Proofs.Tryz.f145) where
  ex := ⟨Go.Proofs.Tryz.f145, Go.Proofs.Tryz.func145, by kernel_rfl, by kernel_rfl, by kernel_rfl, by kernel_rfl⟩
  code := by kernel_rfl
  res := by kernel_rfl
theorem ok146 : FnOk EE 146 19 [.tmp 4] (code Go.Proofs.Tryz.f146) where
  ex := ⟨Go.Proofs.Tryz.f146, Go.Proofs.Tryz.func146, by kernel_rfl, by kernel_rfl, by kernel_rfl, by kernel_rfl⟩
  code := by kernel_rfl
  res := by kernel_rfl
theorem ok147 : FnOk EE 147 6 [.tmp 2] (code Go.Proofs.Tryz.f147) where
  ex := ⟨Go.Proofs.Tryz.f147, Go.Proofs.Tryz.func147, by kernel_rfl, by kernel_rfl, by kernel_rfl, by kernel_rfl⟩
  code := by kernel_rfl
  res := by kernel_rfl
theorem ok148 : FnOk EE 148 13 [.tmp 2] (code Go.Proofs.Tryz.f148) where
  ex := ⟨Go.Proofs.Tryz.f148, Go.Proofs.Tryz.func148, by kernel_rfl, by kernel_rfl, by kernel_rfl, by kernel_rfl⟩
  code := by kernel_rfl
  res := by kernel_rfl
theorem ok149 : FnOk EE 149 18 [.tmp 2] (code Go.Proofs.Tryz.f149) where
  ex := ⟨Go.Proofs.Tryz.f149, Go.Proofs.Tryz.func149, by kernel_rfl, by kernel_rfl, by kernel_rfl, by kernel_rfl⟩
  code := by kernel_rfl
  res := by kernel_rfl
theorem ok150 : FnOk EE 150 8 [.tmp 4] (code Go.Proofs.Tryz.f150) where
  ex := ⟨Go.Proofs.Tryz.f150, Go.Proofs.Tryz.func150, by kernel_rfl, by kernel_rfl, by kernel_rfl, by kernel_rfl⟩
  code := by kernel_rfl
  res := by kernel_rfl
theorem ok151 : FnOk EE 151 14 [] (code Go.Proofs.Tryz.f151) where
  ex := ⟨Go.Proofs.Tryz.f151, Go.Proofs.Tryz.func151, by kernel_rfl, by kernel_rfl, by kernel_rfl, by kernel_rfl⟩
  code := by kernel_rfl
  res := by kernel_rfl
theorem ok152 : FnOk EE 152 10 [.tmp 4] (code Go.Proofs.Tryz.f152) where
  ex := ⟨Go.Proofs.Tryz.f152, Go.Proofs.Tryz.func152, by kernel_rfl, by kernel_rfl, by kernel_rfl, by kernel_rfl⟩
  code := by kernel_rfl
  res := by kernel_rfl
theorem ok153 : FnOk EE 153 19 [.tmp 4] (code Go.Proofs.Tryz.f153) where
  ex := ⟨Go.Proofs.Tryz.f153, Go.Proofs.Tryz.func153, by kernel_rfl, by kernel_rfl, by kernel_rfl, by kernel_rfl⟩
  code := by kernel_rfl
  res := by kernel_rfl
theorem ok154 : FnOk EE 154 20 [.tmp 6] (code Go.Proofs.Tryz.f154) where
  ex := ⟨Go.Proofs.Tryz.f154, Go.Proofs.Tryz.func154, by kernel_rfl, by kernel_rfl, by kernel_rfl, by kernel_rfl⟩
  code := by kernel_rfl
  res := by kernel_rfl
theorem ok156 : FnOk EE 156 54 [.tmp 4] (code Go.Proofs.Tryz.f156) where
  ex := ⟨Go.Proofs.Tryz.f156, Go.Proofs.Tryz.func156, by kernel_rfl, by kernel_rfl, by kernel_rfl, by kernel_rfl⟩
  code := by kernel_rfl
  res := by kernel_rfl
theorem ok157 : FnOk EE 157 58 [] (code Go.Proofs.Tryz.f157) where
  ex := ⟨Go.Proofs.Tryz.f157, Go.Proofs.Tryz.func157, by kernel_rfl, by kernel_rfl, by kernel_rfl, by kernel_rfl⟩
  code := by kernel_rfl
  res := by kernel_rfl
theorem ok158 : FnOk EE 158 44 [.tmp 4] (code Go.Proofs.Tryz.f158) where
  ex := ⟨Go.Proofs.Tryz.f158, Go.Proofs.Tryz.func158, by kernel_rfl, by kernel_rfl, by kernel_rfl, by kernel_rfl⟩
  code := by kernel_rfl
  res := by kernel_rfl
theorem ok159 : FnOk EE 159 25 [.tmp 6] (code Go.Proofs.Tryz.f159) where
  ex := ⟨Go.Proofs.Tryz.f159, Go.Proofs.Tryz.func159, by kernel_rfl, by kernel_rfl, by kernel_rfl, by kernel_rfl⟩
  code := by kernel_rfl
  res := by kernel_rfl
theorem ok160 : FnOk EE 160 35 [.tmp 4] (code Go.Proofs.Tryz.f160) where
  ex := ⟨Go.Proofs.Tryz.f160, Go.Proofs.Tryz.func160, by kernel_rfl, by kernel_rfl, by kernel_rfl, by kernel_rfl⟩
  code := by kernel_rfl
  res := by kernel_rfl
theorem ok161 : FnOk EE 161 6 [.tmp 2] (code Go.Proofs.Tryz.f161) where
  ex := ⟨Go.Proofs.Tryz.f161, Go.Proofs.Tryz.func161, by kernel_rfl, by kernel_rfl, by kernel_rfl, by kernel_rfl⟩
  code := by kernel_rfl
  res := by kernel_rfl
theorem ok162 : FnOk EE 162 9 [.tmp 4] (code Go.Proofs.Tryz.f162) where
  ex := ⟨Go.Proofs.Tryz.f162, Go.Proofs.Tryz.func162, by kernel_rfl, by kernel_rfl, by kernel_rfl, by kernel_rfl⟩
  code := by kernel_rfl
  res := by kernel_rfl
theorem ok163 : FnOk EE 163 30 [.tmp 2] (code Go.Proofs.Tryz.f163) where
  ex := ⟨Go.Proofs.Tryz.f163, Go.Proofs.Tryz.func163, by kernel_rfl, by kernel_rfl, by kernel_rfl, by kernel_rfl⟩
  code := by kernel_rfl
  res := by kernel_rfl
theorem ok164 : FnOk EE 164 8 [.tmp 4] (code Go.Proofs.Tryz.f164) where
  ex := ⟨Go.Proofs.Tryz.f164, Go.Proofs.Tryz.func164, by kernel_rfl, by kernel_rfl, by kernel_rfl, by kernel_rfl⟩
  code := by kernel_rfl
  res := by kernel_rfl
theorem ok165 : FnOk EE 165 148 [] (code Go.Proofs.Tryz.f165) where
  ex := ⟨Go.Proofs.Tryz.f165, Go.Proofs.Tryz.func165, by kernel_rfl, by kernel_rfl, by kernel_rfl, by kernel_rfl⟩
  code := by kernel_rfl
  res := by kernel_rfl
theorem ok166 : FnOk EE 166 8 [.tmp 2] (code Go.Proofs.Tryz.f166) where
  ex := ⟨Go.Proofs.Tryz.f166, Go.Proofs.Tryz.func166, by kernel_rfl, by kernel_rfl, by kernel_rfl, by kernel_rfl⟩
  code := by kernel_rfl
  res := by kernel_rfl
theorem ok167 : FnOk EE 167 15 [.tmp 2] (code Go.Proofs.Tryz.f167) where
  ex := ⟨Go.Proofs.Tryz.f167, Go.Proofs.Tryz.func167, by kernel_rfl, by kernel_rfl, by kernel_rfl, by kernel_rfl⟩
  code := by kernel_rfl
  res := by kernel_rfl
theorem ok168 : FnOk EE 168 15 [.tmp 2] (code Go.Proofs.Tryz.f168) where
  ex := ⟨Go.Proofs.Tryz.f168, Go.Proofs.Tryz.func168, by kernel_rfl, by kernel_rfl, by kernel_rfl, by kernel_rfl⟩
  code := by kernel_rfl
  res := by kernel_rfl
theorem ok169 : FnOk EE 169 167 [] (code Go.Proofs.Tryz.f169) where
  ex := ⟨Go.Proofs.Tryz.f169, Go.Proofs.Tryz.func169, by kernel_rfl, by kernel_rfl, by kernel_rfl, by kernel_rfl⟩
  code := by kernel_rfl
  res := by kernel_rfl
theorem ok170 : FnOk EE 170 102 [.tmp 10, .tmp 11] (code Go.Proofs.Tryz.f170) where
  ex := ⟨Go.Proofs.Tryz.f170, Go.Proofs.Tryz.func170, by kernel_rfl, by kernel_rfl, by kernel_rfl, by kernel_rfl⟩
  code := by kernel_rfl
  res := by kernel_rfl
theorem ok171 : FnOk EE 171 38 [] (code Go.Proofs.Tryz.f171) where
  ex := ⟨Go.Proofs.Tryz.f171, Go.Proofs.Tryz.func171, by kernel_rfl, by kernel_rfl, by kernel_rfl, by kernel_rfl⟩
  code := by kernel_rfl
  res := by kernel_rfl
theorem ok172 : FnOk EE 172 48 [.tmp 4] (code Go.Proofs.Tryz.f172) where
  ex := ⟨Go.Proofs.Tryz.f172, Go.Proofs.Tryz.func172, by kernel_rfl, by kernel_rfl, by kernel_rfl, by kernel_rfl⟩
  code := by kernel_rfl
  res := by kernel_rfl
theorem ok173 : FnOk EE 173 8 [.tmp 4] (code Go.Proofs.Tryz.f173) where
  ex := ⟨Go.Proofs.Tryz.f173, Go.Proofs.Tryz.func173, by kernel_rfl, by kernel_rfl, by kernel_rfl, by kernel_rfl⟩
  code := by kernel_rfl
  res := by kernel_rfl
theorem ok175 : FnOk EE 175 53 [] (code Go.Proofs.Tryz.f175) where
  ex := ⟨Go.Proofs.Tryz.f175, Go.Proofs.Tryz.func175, by kernel_rfl, by kernel_rfl, by kernel_rfl, by kernel_rfl⟩
  code := by kernel_rfl
  res := by kernel_rfl
theorem ok176 : FnOk EE 176 60 [] (code Go.Proofs.Tryz.f176) where
  ex := ⟨Go.Proofs.Tryz.f176, Go.Proofs.Tryz.func176, by kernel_rfl, by kernel_rfl, by kernel_rfl, by kernel_rfl⟩
  code := by kernel_rfl
  res := by kernel_rfl
theorem ok177 : FnOk EE 177 67 [] (code Go.Proofs.Tryz.f177) where
  ex := ⟨Go.Proofs.Tryz.f177, Go.Proofs.Tryz.func177, by kernel_rfl, by kernel_rfl, by kernel_rfl, by kernel_rfl⟩
  code := by kernel_rfl
  res := by kernel_rfl
theorem ok178 : FnOk EE 178 63 [.tmp 8, .tmp 9] (code Go.Proofs.Tryz.f178) where
  ex := ⟨Go.Proofs.Tryz.f178, Go.Proofs.Tryz.func178, by kernel_rfl, by kernel_rfl, by kernel_rfl, by kernel_rfl⟩
  code := by kernel_rfl
  res := by kernel_rfl
theorem ok179 : FnOk EE 179 34 [] (code Go.Proofs.Tryz.f179) where
  ex := ⟨Go.Proofs.Tryz.f179, Go.Proofs.Tryz.func179, by kernel_rfl, by kernel_rfl, by kernel_rfl, by kernel_rfl⟩
  code := by kernel_rfl
  res := by kernel_rfl
theorem ok180 : FnOk EE 180 141 [.tmp 8] (code Go.Proofs.Tryz.f180) where
  ex := ⟨Go.Proofs.Tryz.f180, Go.Proofs.Tryz.func180, by kernel_rfl, by kernel_rfl, by kernel_rfl, by kernel_rfl⟩
  code := by kernel_rfl
  res := by kernel_rfl
theorem ok181 : FnOk EE 181 90 [.tmp 10] (code Go.Proofs.Tryz.f181) where
  ex := ⟨Go.Proofs.Tryz.f181, Go.Proofs.Tryz.func181, by kernel_rfl, by kernel_rfl, by kernel_rfl, by kernel_rfl⟩
  code := by kernel_rfl
  res := by kernel_rfl
theorem ok182 : FnOk EE 182 178 [.tmp 10, .tmp 11] (code Go.Proofs.Tryz.f182) where
  ex := ⟨Go.Proofs.Tryz.f182, Go.Proofs.Tryz.func182, by kernel_rfl, by kernel_rfl, by kernel_rfl, by kernel_rfl⟩
  code := by kernel_rfl
  res := by kernel_rfl
theorem ok183 : FnOk EE 183 19 [.tmp 2] (code Go.Proofs.Tryz.f183) where
  ex := ⟨Go.Proofs.Tryz.f183, Go.Proofs.Tryz.func183, by kernel_rfl, by kernel_rfl, by kernel_rfl, by kernel_rfl⟩
  code := by kernel_rfl
  res := by kernel_rfl
theorem ok184 : FnOk EE 184 25 [.tmp 2] (code Go.Proofs.Tryz.f184) where
  ex := ⟨Go.Proofs.Tryz.f184, Go.Proofs.Tryz.func184, by kernel_rfl, by kernel_rfl, by kernel_rfl, by kernel_rfl⟩
  code := by kernel_rfl
  res := by kernel_rfl
theorem ok185 : FnOk EE 185 6 [.tmp 2] (code Go.Proofs.Tryz.f185) where
  ex := ⟨Go.Proofs.Tryz.f185, Go.Proofs.Tryz.func185, by kernel_rfl, by kernel_rfl, by kernel_rfl, by kernel_rfl⟩
  code := by kernel_rfl
  res := by kernel_rfl
theorem ok186 : FnOk EE 186 4 [.tmp 2] (code Go.Proofs.Tryz.f186) where
  ex := ⟨Go.Proofs.Tryz.f186, Go.Proofs.Tryz.func186, by kernel_rfl, by kernel_rfl, by kernel_rfl, by kernel_rfl⟩
  code := by kernel_rfl
  res := by kernel_rfl
theorem ok187 : FnOk EE 187 8 [.tmp 2] (code Go.Proofs.Tryz.f187) where
  ex := ⟨Go.Proofs.Tryz.f187, Go.Proofs.Tryz.func187, by kernel_rfl, by kernel_rfl, by kernel_rfl, by kernel_rfl⟩
  code := by kernel_rfl
  res := by kernel_rfl
theorem ok188 : FnOk EE 188 8 [.tmp 2] (code Go.Proofs.Tryz.f188) where
  ex := ⟨Go.Proofs.Tryz.f188, Go.Proofs.Tryz.func188, by kernel_rfl, by kernel_rfl, by kernel_rfl, by kernel_rfl⟩
  code := by kernel_rfl
  res := by kernel_rfl
theorem ok189 : FnOk EE 189 21 [.tmp 6] (code Go.Proofs.Tryz.f189) where
  ex := ⟨Go.Proofs.Tryz.f189, Go.Proofs.Tryz.func189, by kernel_rfl, by kernel_rfl, by kernel_rfl, by kernel_rfl⟩
  code := by kernel_rfl
  res := by kernel_rfl
theorem ok190 : FnOk EE 190 82 [] (code Go.Proofs.Tryz.f190) where
  ex := ⟨Go.Proofs.Tryz.f190, Go.Proofs.Tryz.func190, by kernel_rfl, by kernel_rfl, by kernel_rfl, by kernel_rfl⟩
  code := by kernel_rfl
  res := by kernel_rfl
theorem ok191 : FnOk EE 191 7 [.tmp 2] (code Go.Proofs.Tryz.f191) where
  ex := ⟨Go.Proofs.Tryz.f191, Go.Proofs.Tryz.func191, by kernel_rfl, by kernel_rfl, by kernel_rfl, by kernel_rfl⟩
  code := by kernel_rfl
  res := by kernel_rfl
theorem ok192 : FnOk EE 192 33 [.tmp 2] (code Go.Proofs.Tryz.f192) where
  ex := ⟨Go.Proofs.Tryz.f192, Go.Proofs.Tryz.func192, by kernel_rfl, by kernel_rfl, by kernel_rfl, by kernel_rfl⟩
  code := by kernel_rfl
  res := by kernel_rfl
theorem ok193 : FnOk EE 193 18 [.tmp 8] (code Go.Proofs.Tryz.f193) where
  ex := ⟨Go.Proofs.Tryz.f193, Go.Proofs.Tryz.func193, by kernel_rfl, by kernel_rfl, by kernel_rfl, by kernel_rfl⟩
  code := by kernel_rfl
  res := by kernel_rfl
theorem ok194 : FnOk EE 194 41 [.tmp 12] (code Go.Proofs.Tryz.f194) where
  ex := ⟨Go.Proofs.Tryz.f194, Go.Proofs.Tryz.func194, by kernel_rfl, by kernel_rfl, by kernel_rfl, by kernel_rfl⟩
  code := by kernel_rfl
  res := by kernel_rfl
theorem ok195 : FnOk EE 195 14 [.tmp 2] (code Go.Proofs.Tryz.f195) where
  ex := ⟨Go.Proofs.Tryz.f195, Go.Proofs.Tryz.func195, by kernel_rfl, by kernel_rfl, by kernel_rfl, by kernel_rfl⟩
  code := by kernel_rfl
  res := by kernel_rfl
theorem ok196 : FnOk EE 196 14 [.tmp 2] (code Go.Proofs.Tryz.f196) where
  ex := ⟨Go.Proofs.Tryz.f196, Go.Proofs.Tryz.func196, by kernel_rfl, by kernel_rfl, by kernel_rfl, by kernel_rfl⟩
  code := by kernel_rfl
  res := by kernel_rfl
theorem ok197 : FnOk EE 197 32 [.tmp 10, .tmp 11] (code Go.Proofs.Tryz.f197) where
  ex := ⟨Go.Proofs.Tryz.f197, Go.Proofs.Tryz.func197, by kernel_rfl, by kernel_rfl, by kernel_rfl, by kernel_rfl⟩
  code := by kernel_rfl
  res := by kernel_rfl
noncomputable def tbList : List (Nat × FnD) := [
  (3, ⟨16, [.tmp 2], code Go.Proofs.Tryz.f3⟩),
  (4, ⟨51, [.tmp 2], code Go.Proofs.Tryz.f4⟩),
  (5, ⟨52, [.tmp 6], code Go.Proofs.Tryz.f5⟩),
  (6, ⟨118, [.tmp 2], code Go.Proofs.Tryz.f6⟩),
  (7, ⟨83, [.tmp 2], code Go.Proofs.Tryz.f7⟩),
  (9, ⟨42, [.tmp 2], code Go.Proofs.Tryz.f9⟩),
  (10, ⟨79, [.tmp 4], code Go.Proofs.Tryz.f10⟩),
  (11, ⟨58, [.tmp 4], code Go.Proofs.Tryz.f11⟩),
  (12, ⟨39, [.tmp 2], code Go.Proofs.Tryz.f12⟩),
  (13, ⟨70, [.tmp 2], code Go.Proofs.Tryz.f13⟩),
  (14, ⟨44, [.tmp 2], code Go.Proofs.Tryz.f14⟩),
  (15, ⟨49, [.tmp 0], code Go.Proofs.Tryz.f15⟩),
  (16, ⟨17, [.tmp 2], code Go.Proofs.Tryz.f16⟩),
  (17, ⟨31, [.tmp 6, .tmp 7, .tmp 8], code Go.Proofs.Tryz.f17⟩),
  (18, ⟨51, [.tmp 6, .tmp 7, .tmp 8], code Go.Proofs.Tryz.f18⟩),
  (19, ⟨9, [.tmp 4], code Go.Proofs.Tryz.f19⟩),
  (20, ⟨26, [.tmp 4], code Go.Proofs.Tryz.f20⟩),
  (21, ⟨19, [.tmp 4, .tmp 5], code Go.Proofs.Tryz.f21⟩),
  (22, ⟨12, [.tmp 4, .tmp 5], code Go.Proofs.Tryz.f22⟩),
  (23, ⟨10, [.tmp 4], code Go.Proofs.Tryz.f23⟩),
  (24, ⟨26, [.tmp 4], code Go.Proofs.Tryz.f24⟩),
  (25, ⟨33, [.tmp 6], code Go.Proofs.Tryz.f25⟩),
  (26, ⟨17, [.tmp 6], code Go.Proofs.Tryz.f26⟩),
  (27, ⟨8, [.cell 2 25], code Go.Proofs.Tryz.f27⟩),
  (28, ⟨15, [.tmp 6], code Go.Proofs.Tryz.f28⟩),
  (29, ⟨9, [.tmp 4], code Go.Proofs.Tryz.f29⟩),
  (30, ⟨8, [.cell 2 36], code Go.Proofs.Tryz.f30⟩),
  (31, ⟨17, [.tmp 6], code Go.Proofs.Tryz.f31⟩),
  (32, ⟨17, [.tmp 6], code Go.Proofs.Tryz.f32⟩),
  (33, ⟨17, [.tmp 6], code Go.Proofs.Tryz.f33⟩),
  (34, ⟨81, [.tmp 2], code Go.Proofs.Tryz.f34⟩),
  (35, ⟨44, [.tmp 4], code Go.Proofs.Tryz.f35⟩),
  (36, ⟨38, [.tmp 4], code Go.Proofs.Tryz.f36⟩),
  (37, ⟨9, [.tmp 2], code Go.Proofs.Tryz.f37⟩),
  (38, ⟨100, [.tmp 2], code Go.Proofs.Tryz.f38⟩),
  (39, ⟨92, [.tmp 4], code Go.Proofs.Tryz.f39⟩),
  (40, ⟨16, [.tmp 2], code Go.Proofs.Tryz.f40⟩),
  (41, ⟨42, [.tmp 4], code Go.Proofs.Tryz.f41⟩),
  (42, ⟨38, [.tmp 4, .tmp 5, .tmp 6, .tmp 7], code Go.Proofs.Tryz.f42⟩),
  (43, ⟨8, [.tmp 2], code Go.Proofs.Tryz.f43⟩),
  (44, ⟨8, [.tmp 2], code Go.Proofs.Tryz.f44⟩),
  (45, ⟨108, [.tmp 6, .tmp 7, .tmp 8], code Go.Proofs.Tryz.f45⟩),
  (46, ⟨30, [.tmp 4, .tmp 5], code Go.Proofs.Tryz.f46⟩),
  (47, ⟨46, [.tmp 4], code Go.Proofs.Tryz.f47⟩),
  (48, ⟨20, [.tmp 4, .tmp 5], code Go.Proofs.Tryz.f48⟩),
  (49, ⟨32, [.tmp 4], code Go.Proofs.Tryz.f49⟩),
  (50, ⟨9, [.tmp 2], code Go.Proofs.Tryz.f50⟩),
  (51, ⟨8, [.cell 2 36], code Go.Proofs.Tryz.f51⟩),
  (52, ⟨28, [.tmp 4], code Go.Proofs.Tryz.f52⟩),
  (53, ⟨52, [.tmp 4], code Go.Proofs.Tryz.f53⟩),
  (54, ⟨25, [.tmp 4], code Go.Proofs.Tryz.f54⟩),
  (55, ⟨43, [.tmp 6, .tmp 7], code Go.Proofs.Tryz.f55⟩),
  (56, ⟨36, [.tmp 4], code Go.Proofs.Tryz.f56⟩),
  (57, ⟨144, [.tmp 2], code Go.Proofs.Tryz.f57⟩),
  (58, ⟨58, [.tmp 6, .tmp 7], code Go.Proofs.Tryz.f58⟩),
  (59, ⟨52, [.tmp 2], code Go.Proofs.Tryz.f59⟩),
  (60, ⟨9, [.tmp 4], code Go.Proofs.Tryz.f60⟩),
  (61, ⟨6, [.tmp 2], code Go.Proofs.Tryz.f61⟩),
  (62, ⟨9, [.tmp 2], code Go.Proofs.Tryz.f62⟩),
  (63, ⟨49, [.tmp 2], code Go.Proofs.Tryz.f63⟩),
  (64, ⟨9, [.tmp 4], code Go.Proofs.Tryz.f64⟩),
  (65, ⟨9, [.tmp 3], code Go.Proofs.Tryz.f65⟩),
  (66, ⟨13, [.tmp 4], code Go.Proofs.Tryz.f66⟩),
  (67, ⟨49, [.tmp 2], code Go.Proofs.Tryz.f67⟩),
  (68, ⟨51, [.tmp 2], code Go.Proofs.Tryz.f68⟩),
  (69, ⟨6, [.tmp 2], code Go.Proofs.Tryz.f69⟩),
  (70, ⟨33, [.tmp 2], code Go.Proofs.Tryz.f70⟩),
  (71, ⟨7, [.tmp 2], code Go.Proofs.Tryz.f71⟩),
  (72, ⟨43, [.tmp 2], code Go.Proofs.Tryz.f72⟩),
  (73, ⟨18, [.tmp 2], code Go.Proofs.Tryz.f73⟩),
  (74, ⟨114, [.tmp 4, .tmp 5, .tmp 6], code Go.Proofs.Tryz.f74⟩),
  (75, ⟨11, [.tmp 4], code Go.Proofs.Tryz.f75⟩),
  (76, ⟨40, [.tmp 4, .tmp 5], code Go.Proofs.Tryz.f76⟩),
  (77, ⟨7, [.tmp 2], code Go.Proofs.Tryz.f77⟩),
  (78, ⟨6, [.tmp 4], code Go.Proofs.Tryz.f78⟩),
  (79, ⟨9, [], code Go.Proofs.Tryz.f79⟩),
  (81, ⟨20, [.tmp 4], code Go.Proofs.Tryz.f81⟩),
  (82, ⟨143, [.tmp 2], code Go.Proofs.Tryz.f82⟩),
  (83, ⟨27, [.tmp 2], code Go.Proofs.Tryz.f83⟩),
  (84, ⟨8, [.tmp 2], code Go.Proofs.Tryz.f84⟩),
  (85, ⟨33, [.tmp 6], code Go.Proofs.Tryz.f85⟩),
  (86, ⟨31, [.tmp 2], code Go.Proofs.Tryz.f86⟩),
  (87, ⟨60, [.tmp 2], code Go.Proofs.Tryz.f87⟩),
  (88, ⟨87, [.tmp 4], code Go.Proofs.Tryz.f88⟩),
  (89, ⟨17, [.tmp 6], code Go.Proofs.Tryz.f89⟩),
  (90, ⟨19, [.tmp 4], code Go.Proofs.Tryz.f90⟩),
  (91, ⟨19, [.tmp 4], code Go.Proofs.Tryz.f91⟩),
  (92, ⟨9, [.tmp 2], code Go.Proofs.Tryz.f92⟩),
  (94, ⟨12, [.tmp 2], code Go.Proofs.Tryz.f94⟩),
  (95, ⟨31, [.tmp 2], code Go.Proofs.Tryz.f95⟩),
  (96, ⟨30, [.tmp 2], code Go.Proofs.Tryz.f96⟩),
  (97, ⟨20, [.tmp 2], code Go.Proofs.Tryz.f97⟩),
  (98, ⟨21, [.tmp 2], code Go.Proofs.Tryz.f98⟩),
  (99, ⟨19, [.tmp 4, .tmp 5], code Go.Proofs.Tryz.f99⟩),
  (100, ⟨5, [.tmp 2], code Go.Proofs.Tryz.f100⟩),
  (101, ⟨17, [.tmp 4], code Go.Proofs.Tryz.f101⟩),
  (103, ⟨9, [.tmp 4], code Go.Proofs.Tryz.f103⟩),
  (104, ⟨9, [.tmp 4], code Go.Proofs.Tryz.f104⟩),
  (105, ⟨9, [.tmp 2], code Go.Proofs.Tryz.f105⟩),
  (106, ⟨36, [.tmp 2], code Go.Proofs.Tryz.f106⟩),
  (107, ⟨20, [.tmp 2], code Go.Proofs.Tryz.f107⟩),
  (108, ⟨3, [.tmp 2], code Go.Proofs.Tryz.f108⟩),
  (109, ⟨27, [.tmp 3], code Go.Proofs.Tryz.f109⟩),
  (110, ⟨26, [.tmp 4], code Go.Proofs.Tryz.f110⟩),
  (111, ⟨12, [.tmp 4], code Go.Proofs.Tryz.f111⟩),
  (112, ⟨39, [], code Go.Proofs.Tryz.f112⟩),
  (113, ⟨63, [], code Go.Proofs.Tryz.f113⟩),
  (114, ⟨6, [.tmp 2], code Go.Proofs.Tryz.f114⟩),
  (115, ⟨6, [.tmp 0], code Go.Proofs.Tryz.f115⟩),
  (116, ⟨54, [.tmp 2], code Go.Proofs.Tryz.f116⟩),
  (117, ⟨24, [.tmp 4], code Go.Proofs.Tryz.f117⟩),
  (118, ⟨31, [.tmp 4], code Go.Proofs.Tryz.f118⟩),
  (119, ⟨7, [.cell 2 34], code Go.Proofs.Tryz.f119⟩),
  (120, ⟨32, [.tmp 2], code Go.Proofs.Tryz.f120⟩),
  (121, ⟨67, [.tmp 4], code Go.Proofs.Tryz.f121⟩),
  (122, ⟨16, [.tmp 6], code Go.Proofs.Tryz.f122⟩),
  (123, ⟨9, [.tmp 4], code Go.Proofs.Tryz.f123⟩),
  (124, ⟨30, [.tmp 2], code Go.Proofs.Tryz.f124⟩),
  (125, ⟨76, [.tmp 2], code Go.Proofs.Tryz.f125⟩),
  (126, ⟨25, [.tmp 4], code Go.Proofs.Tryz.f126⟩),
  (127, ⟨17, [.tmp 4], code Go.Proofs.Tryz.f127⟩),
  (128, ⟨79, [.cell 2 34], code Go.Proofs.Tryz.f128⟩),
  (129, ⟨9, [.tmp 4], code Go.Proofs.Tryz.f129⟩),
  (130, ⟨18, [.tmp 2], code Go.Proofs.Tryz.f130⟩),
  (131, ⟨21, [.tmp 3], code Go.Proofs.Tryz.f131⟩),
  (132, ⟨31, [.tmp 2], code Go.Proofs.Tryz.f132⟩),
  (133, ⟨37, [.tmp 5], code Go.Proofs.Tryz.f133⟩),
  (134, ⟨49, [.tmp 5], code Go.Proofs.Tryz.f134⟩),
  (135, ⟨20, [], code Go.Proofs.Tryz.f135⟩),
  (136, ⟨5, [.tmp 2], code Go.Proofs.Tryz.f136⟩),
  (137, ⟨27, [.tmp 4], code Go.Proofs.Tryz.f137⟩),
  (138, ⟨26, [.cell 2 159], code Go.Proofs.Tryz.f138⟩),
  (139, ⟨53, [], code Go.Proofs.Tryz.f139⟩),
  (140, ⟨220, [], code Go.Proofs.Tryz.f140⟩),
  (141, ⟨21, [.tmp 2], code Go.Proofs.Tryz.f141⟩),
  (142, ⟨40, [.tmp 2], code Go.Proofs.Tryz.f142⟩),
  (143, ⟨79, [.cell 6 34], code Go.Proofs.Tryz.f143⟩),
  (144, ⟨41, [.tmp 8], code Go.Proofs.Tryz.f144⟩),
  (145, ⟨45, [.tmp 4], code Go.Proofs.Tryz.f145⟩),
  (146, ⟨19, [.tmp 4], code Go.Proofs.Tryz.f146⟩),
  (147, ⟨6, [.tmp 2], code Go.Proofs.Tryz.f147⟩),
  (148, ⟨13, [.tmp 2], code Go.Proofs.Tryz.f148⟩),
  (149, ⟨18, [.tmp 2], code Go.Proofs.Tryz.f149⟩),
  (150, ⟨8, [.tmp 4], code Go.Proofs.Tryz.f150⟩),
  (151, ⟨14, [], code Go.Proofs.Tryz.f151⟩),
  (152, ⟨10, [.tmp 4], code Go.Proofs.Tryz.f152⟩),
  (153, ⟨19, [.tmp 4], code Go.Proofs.Tryz.f153⟩),
  (154, ⟨20, [.tmp 6], code Go.Proofs.Tryz.f154⟩),
  (156, ⟨54, [.tmp 4], code Go.Proofs.Tryz.f156⟩),
  (157, ⟨58, [], code Go.Proofs.Tryz.f157⟩),
  (158, ⟨44, [.tmp 4], code Go.Proofs.Tryz.f158⟩),
  (159, ⟨25, [.tmp 6], code Go.Proofs.Tryz.f159⟩),
  (160, ⟨35, [.tmp 4], code Go.Proofs.Tryz.f160⟩),
  (161, ⟨6, [.tmp 2], code Go.Proofs.Tryz.f161⟩),
  (162, ⟨9, [.tmp 4], code Go.Proofs.Tryz.f162⟩),
  (163, ⟨30, [.tmp 2], code Go.Proofs.Tryz.f163⟩),
  (164, ⟨8, [.tmp 4], code Go.Proofs.Tryz.f164⟩),
  (165, ⟨148, [], code Go.Proofs.Tryz.f165⟩),
  (166, ⟨8, [.tmp 2], code Go.Proofs.Tryz.f166⟩),
  (167, ⟨15, [.tmp 2], code Go.Proofs.Tryz.f167⟩),
  (168, ⟨15, [.tmp 2], code Go.Proofs.Tryz.f168⟩),
  (169, ⟨167, [], code Go.Proofs.Tryz.f169⟩),
  (170, ⟨102, [.tmp 10, .tmp 11], code Go.Proofs.Tryz.f170⟩),
  (171, ⟨38, [], code Go.Proofs.Tryz.f171⟩),
  (172, ⟨48, [.tmp 4], code Go.Proofs.Tryz.f172⟩),
  (173, ⟨8, [.tmp 4], code Go.Proofs.Tryz.f173⟩),
  (175, ⟨53, [], code Go.Proofs.Tryz.f175⟩),
  (176, ⟨60, [], code Go.Proofs.Tryz.f176⟩),
  (177, ⟨67, [], code Go.Proofs.Tryz.f177⟩),
  (178, ⟨63, [.tmp 8, .tmp 9], code Go.Proofs.Tryz.f178⟩),
  (179, ⟨34, [], code Go.Proofs.Tryz.f179⟩),
  (180, ⟨141, [.tmp 8], code Go.Proofs.Tryz.f180⟩),
  (181, ⟨90, [.tmp 10], code Go.Proofs.Tryz.f181⟩),
  (182, ⟨178, [.tmp 10, .tmp 11], code Go.Proofs.Tryz.f182⟩),
  (183, ⟨19, [.tmp 2], code Go.Proofs.Tryz.f183⟩),
  (184, ⟨25, [.tmp 2], code Go.Proofs.Tryz.f184⟩),
  (185, ⟨6, [.tmp 2], code Go.Proofs.Tryz.f185⟩),
  (186, ⟨4, [.tmp 2], code Go.Proofs.Tryz.f186⟩),
  (187, ⟨8, [.tmp 2], code Go.Proofs.Tryz.f187⟩),
  (188, ⟨8, [.tmp 2], code Go.Proofs.Tryz.f188⟩),
  (189, ⟨21, [.tmp 6], code Go.Proofs.Tryz.f189⟩),
  (190, ⟨82, [], code Go.Proofs.Tryz.f190⟩),
  (191, ⟨7, [.tmp 2], code Go.Proofs.Tryz.f191⟩),
  (192, ⟨33, [.tmp 2], code Go.Proofs.Tryz.f192⟩),
  (193, ⟨18, [.tmp 8], code Go.Proofs.Tryz.f193⟩),
  (194, ⟨41, [.tmp 12], code Go.Proofs.Tryz.f194⟩),
  (195, ⟨14, [.tmp 2], code Go.Proofs.Tryz.f195⟩),
  (196, ⟨14, [.tmp 2], code Go.Proofs.Tryz.f196⟩),
  (197, ⟨32, [.tmp 10, .tmp 11], code Go.Proofs.Tryz.f197⟩)]
noncomputable def tbl : Tbl := fun f => tbList.lookup f
theorem lookup_mem' {α : Type} {l : List (Nat × α)} {t : Nat} {d : α} (h : l.lookup t = some d) : (t, d) ∈ l := by
  induction l with
  | nil => cases h
  | cons x l ih =>
    obtain ⟨k, v⟩ := x
    rw [List.lookup_cons] at h
    split at h
    · rename_i e
      cases h
      have : t = k := by simpa using e
      subst this; simp
    · simp [ih h]
def AllOk (E : Env) : List (Nat × FnD) → Prop | [] => True | (f, d) :: l => FnOk E f d.N d.rs d.code ∧ AllOk E l
theorem allOk_mem {E : Env} : ∀ {l : List (Nat × FnD)}, AllOk E l → ∀ {f d}, (f, d) ∈ l → FnOk E f d.N d.rs d.code
  | [], _, f, d, h => by cases h
  | (k, x) :: l, hl, f, d, h => by
    rcases List.mem_cons.1 h with e | h
    · injection e with e1 e2; subst e1 e2; exact hl.1
    · exact allOk_mem hl.2 h
theorem tbAll : AllOk EE tbList := ⟨ok3, ok4, ok5, ok6, ok7, ok9, ok10, ok11, ok12, ok13, ok14, ok15, ok16, ok17, ok18, ok19, ok20, ok21, ok22, ok23, ok24, ok25, ok26, ok27, ok28, ok29, ok30, ok31, ok32, ok33, ok34, ok35, ok36, ok37, ok38, ok39, ok40, ok41, ok42, ok43, ok44, ok45, ok46, ok47, ok48, ok49, ok50, ok51, ok52, ok53, ok54, ok55, ok56, ok57, ok58, ok59, ok60, ok61, ok62, ok63, ok64, ok65, ok66, ok67, ok68, ok69, ok70, ok71, ok72, ok73, ok74, ok75, ok76, ok77, ok78, ok79, ok81, ok82, ok83, ok84, ok85, ok86, ok87, ok88, ok89, ok90, ok91, ok92, ok94, ok95, ok96, ok97, ok98, ok99, ok100, ok101, ok103, ok104, ok105, ok106, ok107, ok108, ok109, ok110, ok111, ok112, ok113, ok114, ok115, ok116, ok117, ok118, ok119, ok120, ok121, ok122, ok123, ok124, ok125, ok126, ok127, ok128, ok129, ok130, ok131, ok132, ok133, ok134, ok135, ok136, ok137, ok138, ok139, ok140, ok141, ok142, ok143, ok144, ok145, ok146, ok147, ok148, ok149, ok150, ok151, ok152, ok153, ok154, ok156, ok157, ok158, ok159, ok160, ok161, ok162, ok163, ok164, ok165, ok166, ok167, ok168, ok169, ok170, ok171, ok172, ok173, ok175, ok176, ok177, ok178, ok179, ok180, ok181, ok182, ok183, ok184, ok185, ok186, ok187, ok188, ok189, ok190, ok191, ok192, ok193, ok194, ok195, ok196, ok197, trivial⟩
theorem tblOk : TblOk EE tbl := fun f d h => allOk_mem tbAll (lookup_mem' h)
end Go.Pv.Ct
end
