/-
  The pure machine, part R: a region that draws: in whatever order, the outcome is that of the text's.
-/
import Derived.Test.YtbfmlkdpeaeblaaPvQ
set_option linter.all false
set_option linter.unusedSimpArgs false
set_option linter.unusedVariables false
namespace Go.Pv

theorem le_ind {k : Nat} {motive : (m : Nat) → k ≤ m → Prop} (base : motive k (Nat.le_refl k)) (succ : ∀ (m : Nat) (hm : k ≤ m), motive m hm → motive (m + 1) (Nat.le_succ_of_le hm)) (m : Nat) (hm : k ≤ m) : motive m hm := by
  induction m with
  | zero =>
    have : k = 0 := by omega
    subst this
    exact base
  | succ m ih =>
    by_cases h : k ≤ m
    · exact succ m h (ih h)
    · have : k = m + 1 := by omega
      subst this
      exact base

section
variable {E : Env} {ops : Array Oper} {B : List Nat} {fs : Nat → Fr} {ss : Nat → Store} {vs : Nat → PV} {wt : Nat → Bool}

def Ready (ops : Array Oper) (L : Nat → Bool) (k : Nat) (ok : Oper) : Prop := ops[k]? = some ok ∧ L k = false ∧ ∀ e ∈ ok.after, Region.binds .any e = true → L e.on = true

theorem DrawFacts.lower (D : DrawFacts E.pl ops B) {L : Nat → Bool} (hL : Closed ops L) {k : Nat} {ok : Oper} (hk : Ready ops L k ok) {m : Nat} {om : Oper} (hm : ops[m]? = some om) (hlt : m < k) (hLm : L m = false) :
    apartT ops om ok = true ∧ effPair (effO E.pl om) (effO E.pl ok) = true := by
  refine D.pair m k om ok hm hk.1 hlt ?_
  cases hb : (B.getD k 0).testBit m with
  | false => rfl
  | true => rw [D.before hL k ok hk.1 hk.2.2 m hb] at hLm; cases hLm
theorem DrawFacts.upper (D : DrawFacts E.pl ops B) {L : Nat → Bool} (hL : Closed ops L) {k : Nat} {ok : Oper} (hk : Ready ops L k ok) {m : Nat} {om : Oper} (hm : ops[m]? = some om) (hlt : k < m) (hLm : L m = true) :
    apartT ops ok om = true ∧ effPair (effO E.pl ok) (effO E.pl om) = true := by
  refine D.pair k m ok om hk.1 hm hlt ?_
  cases hb : (B.getD m 0).testBit k with
  | false => rfl
  | true => have := D.before hL m om hm (hL m om hm hLm) k hb; rw [hk.2.1] at this; cases this
theorem DrawFacts.under (D : DrawFacts E.pl ops B) {L : Nat → Bool} (hL : Closed ops L) {m : Nat} {om : Oper} (hm : ops[m]? = some om) (hLm : L m = true) {i : Nat} {oi : Oper} (hi : ops[i]? = some oi) (hlt : i < m) (hLi : L i = false) :
    apartT ops oi om = true ∧ effPair (effO E.pl oi) (effO E.pl om) = true := by
  refine D.pair i m oi om hi hm hlt ?_
  cases hb : (B.getD m 0).testBit i with
  | false => rfl
  | true => have := D.before hL m om hm (hL m om hm hLm) i hb; rw [hLi] at this; cases this

theorem apartT_spec {x y : Oper} (h : apartT ops x y = true) : (∀ d, x.dst = some d → d ∉ tmpsOf ops y ∧ y.dst ≠ some d) ∧ ∀ d, y.dst = some d → d ∉ tmpsOf ops x := by
  unfold apartT at h
  simp only [Bool.and_eq_true] at h
  obtain ⟨h1, h2⟩ := h
  refine ⟨fun d hd => ?_, fun d hd => ?_⟩
  · rw [hd] at h1; simpa using h1
  · rw [hd] at h2; simpa using h2

theorem cFr_in {L : Nat → Bool} {f0 : Fr} {i : Nat} {o : Oper} (ho : ops[i]? = some o) (hL : L i = true) : cFr ops L f0 vs (i + 1) = upd (cFr ops L f0 vs i) o.dst (vs i) := by
  simp [cFr, ho, hL]
theorem cFr_out {L : Nat → Bool} {f0 : Fr} {i : Nat} (hL : L i = false) : cFr ops L f0 vs (i + 1) = cFr ops L f0 vs i := by simp [cFr, hL]

theorem op_at {i n : Nat} (h : i < n) (hn : n ≤ ops.size) : ∃ o, ops[i]? = some o := ⟨_, Array.getElem?_eq_getElem (by omega)⟩

theorem upd_congr {fr fr' : Fr} {d : Option Nat} {v : PV} {t : Nat} (h : fr t = fr' t) : upd fr d v t = upd fr' d v t := by
  cases d with
  | none => exact h
  | some u => simp only [upd]; split
              · rfl
              · exact h

/-- What an operation that may come up looks at is as it is in the order of the text. -/
theorem cFr_looks (D : DrawFacts E.pl ops B) (tr : ∀ (i : Nat) (o : Oper), ops[i]? = some o → TrOk E ops fs ss vs wt i o) {L : Nat → Bool} (hL : Closed ops L) {k : Nat} {ok : Oper} (hk : Ready ops L k ok) {t : Nat} (ht : t ∈ tmpsOf ops ok) :
    cFr ops L (fs 0) vs ops.size t = fs k t := by
  have hks : k < ops.size := (Array.getElem?_eq_some_iff.1 hk.1).1
  have low : ∀ m, m ≤ k → cFr ops L (fs 0) vs m t = fs m t := by
    intro m
    induction m with
    | zero => intro _; rfl
    | succ m ih =>
      intro hm
      obtain ⟨om, hom⟩ := op_at (ops := ops) (i := m) (n := ops.size) (by omega) (Nat.le_refl _)
      rw [(tr m om hom).2.1]
      cases hLm : L m with
      | true => rw [cFr_in hom hLm]; exact upd_congr (ih (by omega))
      | false =>
        rw [cFr_out hLm, ih (by omega), upd_ne]
        intro e
        exact ((apartT_spec (D.lower hL hk hom (by omega) hLm).1).1 t e).1 ht
  have high : ∀ m, k ≤ m → m ≤ ops.size → cFr ops L (fs 0) vs m t = cFr ops L (fs 0) vs k t := by
    intro m hm
    induction m, hm using le_ind with
    | base => intro _; rfl
    | succ m hm ih =>
      intro hms
      obtain ⟨om, hom⟩ := op_at (ops := ops) (i := m) (n := ops.size) (by omega) (Nat.le_refl _)
      cases hLm : L m with
      | false => rw [cFr_out hLm, ih (by omega)]
      | true =>
        have hne : k ≠ m := fun e => by subst e; rw [hk.2.1] at hLm; cases hLm
        rw [cFr_in hom hLm, upd_ne, ih (by omega)]
        intro e
        exact (apartT_spec (D.upper hL hk hom (by omega) hLm).1).2 t e ht
  rw [high _ (by omega) (Nat.le_refl _), low k (Nat.le_refl _)]

def adds (L : Nat → Bool) (k : Nat) : Nat → Bool := fun i => i == k || L i
theorem adds_ne {L : Nat → Bool} {k i : Nat} (h : i ≠ k) : adds L k i = L i := by simp [adds, h]
theorem adds_eq {L : Nat → Bool} {k : Nat} : adds L k k = true := by simp [adds]

theorem cFr_adds (D : DrawFacts E.pl ops B) {L : Nat → Bool} (hL : Closed ops L) {k : Nat} {ok : Oper} (hk : Ready ops L k ok) (f0 : Fr) :
    cFr ops (adds L k) f0 vs ops.size = upd (cFr ops L f0 vs ops.size) ok.dst (vs k) := by
  have hks : k < ops.size := (Array.getElem?_eq_some_iff.1 hk.1).1
  have low : ∀ m, m ≤ k → cFr ops (adds L k) f0 vs m = cFr ops L f0 vs m := by
    intro m
    induction m with
    | zero => intro _; rfl
    | succ m ih =>
      intro hm
      simp only [cFr, ih (by omega), adds_ne (L := L) (k := k) (i := m) (by omega)]
  have high : ∀ m, k + 1 ≤ m → m ≤ ops.size → cFr ops (adds L k) f0 vs m = upd (cFr ops L f0 vs m) ok.dst (vs k) := by
    intro m hm
    induction m, hm using le_ind with
    | base => intro _; rw [cFr_in hk.1 adds_eq, cFr_out hk.2.1, low k (Nat.le_refl _)]
    | succ m hm ih =>
      intro hms
      obtain ⟨om, hom⟩ := op_at (ops := ops) (i := m) (n := ops.size) (by omega) (Nat.le_refl _)
      have hne : m ≠ k := by omega
      cases hLm : L m with
      | false => rw [cFr_out (by rw [adds_ne hne]; exact hLm), cFr_out hLm, ih (by omega)]
      | true =>
        rw [cFr_in hom (by rw [adds_ne hne]; exact hLm), cFr_in hom hLm, ih (by omega)]
        have hap := (apartT_spec (D.upper hL hk hom (by omega) hLm).1).1
        funext t
        cases hd : ok.dst with
        | none => rfl
        | some d =>
          have hd2 := (hap d hd).2
          cases he : om.dst with
          | none => rfl
          | some e =>
            have : e ≠ d := fun q => hd2 (by rw [he, q])
            simp only [upd]
            by_cases h1 : t = e
            · subst h1; simp [this]
            · simp [h1]
  exact high _ (by omega) (Nat.le_refl _)

theorem chgO_at {pl : FuncId → Bool} {i : Nat} {o : Oper} (h : ops[i]? = some o) : chgO pl ops i = (match effO pl o with | .a | .w => true | _ => false) := by unfold chgO; rw [h]; rfl

theorem keeps (tr : ∀ (i : Nat) (o : Oper), ops[i]? = some o → TrOk E ops fs ss vs wt i o) {i : Nat} (hi : i < ops.size) (hc : chgO E.pl ops i = false) : ss (i + 1) = ss i := by
  obtain ⟨o, ho⟩ := op_at hi (Nat.le_refl _)
  obtain ⟨_, _, h1, h2⟩ := tr i o ho
  rw [chgO_at ho] at hc
  cases hw : wt i with
  | false => exact (h2 hw).2
  | true =>
    have s := h1 hw
    cases he : effO E.pl o with
    | n => exact (stepR_n he s).1
    | r => exact (stepR_r he s).1
    | a => rw [he] at hc; cases hc
    | w => rw [he] at hc; cases hc

theorem cSt_eq (tr : ∀ (i : Nat) (o : Oper), ops[i]? = some o → TrOk E ops fs ss vs wt i o) {L : Nat → Bool} {m : Nat} (hm : m ≤ ops.size) (h : ∀ i, i < m → chgO E.pl ops i = true → L i = true) :
    ∀ i, i ≤ m → cSt L (ss 0) ss (chgO E.pl ops) i = ss i := by
  intro i
  induction i with
  | zero => intro _; rfl
  | succ i ih =>
    intro hi
    simp only [cSt]
    cases hc : chgO E.pl ops i with
    | true => simp [h i (by omega) hc]
    | false => simp [ih (by omega), keeps tr (i := i) (by omega) hc]

theorem effPair_chg {x y : Eff} (hx : x = .a ∨ x = .w) (hy : y ≠ .n) : effPair x y = false := by
  rcases hx with rfl | rfl <;> cases y <;> simp_all [effPair]

theorem chg_cases {pl : FuncId → Bool} {i : Nat} {o : Oper} (ho : ops[i]? = some o) (h : chgO pl ops i = true) : effO pl o = .a ∨ effO pl o = .w := by
  rw [chgO_at ho] at h
  cases he : effO pl o <;> rw [he] at h <;> simp_all

/-- The store that an operation that may come up finds. -/
theorem cSt_low (D : DrawFacts E.pl ops B) (tr : ∀ (i : Nat) (o : Oper), ops[i]? = some o → TrOk E ops fs ss vs wt i o) {L : Nat → Bool} (hL : Closed ops L) {k : Nat} {ok : Oper} (hk : Ready ops L k ok) (hn : effO E.pl ok ≠ .n) :
    ∀ i, i ≤ k → cSt L (ss 0) ss (chgO E.pl ops) i = ss i := by
  have hks : k < ops.size := (Array.getElem?_eq_some_iff.1 hk.1).1
  refine cSt_eq tr (by omega) fun i hi hc => ?_
  obtain ⟨oi, hoi⟩ := op_at (ops := ops) (i := i) (n := ops.size) (by omega) (Nat.le_refl _)
  cases hLi : L i with
  | true => rfl
  | false =>
    have := (D.lower hL hk hoi hi hLi).2
    rw [effPair_chg (chg_cases hoi hc) hn] at this
    cases this

theorem cSt_chg (D : DrawFacts E.pl ops B) (tr : ∀ (i : Nat) (o : Oper), ops[i]? = some o → TrOk E ops fs ss vs wt i o) {L : Nat → Bool} (hL : Closed ops L) {k : Nat} {ok : Oper} (hk : Ready ops L k ok) (hc : chgO E.pl ops k = true) :
    cSt L (ss 0) ss (chgO E.pl ops) ops.size = ss k ∧ cSt (adds L k) (ss 0) ss (chgO E.pl ops) ops.size = ss (k + 1) := by
  have hks : k < ops.size := (Array.getElem?_eq_some_iff.1 hk.1).1
  have hek := chg_cases hk.1 hc
  have hn : effO E.pl ok ≠ .n := by rcases hek with q | q <;> rw [q] <;> simp
  have low := cSt_low D tr hL hk hn
  have no : ∀ m, k < m → m < ops.size → (L m && chgO E.pl ops m) = false := by
    intro m hm hms
    obtain ⟨om, hom⟩ := op_at (ops := ops) (i := m) (n := ops.size) hms (Nat.le_refl _)
    cases hLm : L m with
    | false => rfl
    | true =>
      cases hcm : chgO E.pl ops m with
      | false => rfl
      | true =>
        have := (D.upper hL hk hom hm hLm).2
        rw [effPair_chg hek (by rcases chg_cases hom hcm with q | q <;> rw [q] <;> simp)] at this
        cases this
  have h1 : ∀ m, k + 1 ≤ m → m ≤ ops.size → cSt L (ss 0) ss (chgO E.pl ops) m = ss k := by
    intro m hm
    induction m, hm using le_ind with
    | base => intro _; simp [cSt, hk.2.1, low k (Nat.le_refl _)]
    | succ m hm ih => intro hms; simp only [cSt, no m (by omega) (by omega)]; exact ih (by omega)
  have h2 : ∀ m, k + 1 ≤ m → m ≤ ops.size → cSt (adds L k) (ss 0) ss (chgO E.pl ops) m = ss (k + 1) := by
    intro m hm
    induction m, hm using le_ind with
    | base => intro _; simp [cSt, adds_eq, hc]
    | succ m hm ih => intro hms; simp only [cSt, adds_ne (L := L) (k := k) (i := m) (by omega), no m (by omega) (by omega)]; exact ih (by omega)
  exact ⟨h1 _ (by omega) (Nat.le_refl _), h2 _ (by omega) (Nat.le_refl _)⟩

theorem cSt_calm {L : Nat → Bool} {k : Nat} (hc : chgO E.pl ops k = false) (s0 : Store) : ∀ m, cSt (adds L k) s0 ss (chgO E.pl ops) m = cSt L s0 ss (chgO E.pl ops) m := by
  intro m
  induction m with
  | zero => rfl
  | succ m ih =>
    simp only [cSt, ih]
    by_cases e : m = k
    · subst e; simp [hc]
    · rw [adds_ne e]

theorem cSt_read (D : DrawFacts E.pl ops B) (tr : ∀ (i : Nat) (o : Oper), ops[i]? = some o → TrOk E ops fs ss vs wt i o) {L : Nat → Bool} (hL : Closed ops L) {k : Nat} {ok : Oper} (hk : Ready ops L k ok) (hr : effO E.pl ok = .r) :
    ∃ x, cSt L (ss 0) ss (chgO E.pl ops) ops.size = ss k ++ x := by
  have hks : k < ops.size := (Array.getElem?_eq_some_iff.1 hk.1).1
  have low := cSt_low D tr hL hk (by rw [hr]; simp)
  have high : ∀ m, k ≤ m → m ≤ ops.size → ∃ x, cSt L (ss 0) ss (chgO E.pl ops) m = ss k ++ x := by
    intro m hm
    induction m, hm using le_ind with
    | base => intro _; exact ⟨[], by rw [low k (Nat.le_refl _), List.append_nil]⟩
    | succ m hm ih =>
      intro hms
      obtain ⟨x, ih⟩ := ih (by omega)
      obtain ⟨om, hom⟩ := op_at (ops := ops) (i := m) (n := ops.size) (by omega) (Nat.le_refl _)
      simp only [cSt]
      cases hLm : L m with
      | false => exact ⟨x, by simpa using ih⟩
      | true =>
        cases hcm : chgO E.pl ops m with
        | false => exact ⟨x, by simpa using ih⟩
        | true =>
          have hlt : k < m := by
            rcases Nat.lt_or_ge k m with q | q
            · exact q
            · have : k = m := by omega
              subst this; rw [hk.2.1] at hLm; cases hLm
          have hp := (D.upper hL hk hom hlt hLm).2
          have ha : effO E.pl om = .a := by
            rw [hr] at hp
            rcases chg_cases hom hcm with q | q
            · exact q
            · rw [q] at hp; cases hp
          have hsm : cSt L (ss 0) ss (chgO E.pl ops) m = ss m := by
            refine cSt_eq tr (m := m) (by omega) (fun i hi hc => ?_) m (Nat.le_refl _)
            obtain ⟨oi, hoi⟩ := op_at (ops := ops) (i := i) (n := ops.size) (by omega) (Nat.le_refl _)
            cases hLi : L i with
            | true => rfl
            | false =>
              have := (D.under hL hom hLm hoi hi hLi).2
              rw [effPair_chg (chg_cases hoi hc) (by rw [ha]; simp)] at this
              cases this
          obtain ⟨_, _, h1, h2⟩ := tr m om hom
          simp only [Bool.and_self, if_true]
          rw [ih] at hsm
          cases hw : wt m with
          | false => rw [(h2 hw).2, ← hsm]; exact ⟨x, rfl⟩
          | true =>
            obtain ⟨y, hy⟩ := stepR_a ha (h1 hw)
            rw [hy, ← hsm]; exact ⟨x ++ y, by simp⟩
  exact high _ (by omega) (Nat.le_refl _)

end
end Go.Pv
