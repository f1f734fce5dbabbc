/-
  From a plain contract to a row.
-/
import Derived.Test.YtbfmlkdpeaeblaaPvWb
import Derived.WalkKit
import Derived.ProofKit
import Derived.OpenShut
import Derived.ShutString
import Derived.ChangeOld
import Derived.Below
import Derived.SizedLaws
set_option linter.all false
set_option linter.unusedSimpArgs false
set_option linter.unusedVariables false
namespace Go.Pv
open Go.ChangeShapes Go.WideShapes Go.ChangeAt Go.RowKit

/-- All that lies in memory when the law begins. -/
def K0 (W : World) : Know := fun a => W.cell? a
theorem rel0 {G : Nat → PV} (hG : ∀ g, G g = .bad) (ι : Nat → Value) (W : World) : Rel G (K0 W) ι [] W :=
  ⟨fun _ _ h => h, fun g => by rw [hG]; exact .bad _, fun id o e => by simp at e, fun i j b hi => by simp at hi⟩

theorem plain_calls {E : Env} (hG : ∀ g, E.G g = .bad) {f : FuncId} {xs : List PV} {b : Bool} (h : Plain E f xs (.bool b)) {W : World} {vs : Array Value} (hl : xs.length = vs.size) (hx : ∀ (i : Nat) (p : PV) (u : Value), xs[i]? = some p → vs[i]? = some u → TRel (K0 W) p u) :
    Calls E.P f vs W fun e W' => e = .returned (.bool b) ∧ Below W.heap.size W W' := by
  refine (h.2 (K0 W) W vs (rel0 hG _ W) ⟨hl, hx⟩).mono fun e W' q => ?_
  obtain ⟨K', rv, rfl, s, t⟩ := q
  cases t
  exact ⟨rfl, s.os, s.tape, s.output, s.size, fun k hk => s.block k hk not_owned_nil⟩

/-- A slice of numbers that came in. -/
theorem ints_arg {W : World} {k : IntKind} {a : Option Addr} {len cap : Nat} {zs : List Int}
    (h : (a = none ∧ len = 0 ∧ cap = 0 ∧ zs = []) ∨ ∃ x, a = some x ∧ len ≤ cap ∧ cap ≤ maxLen ∧ zs.length = cap ∧ (∀ i, i < zs.length → W.cell? (x.add i) = some (.int k (zs.getD i 0)))) :
    TRel (K0 W) (.sl 1 ((zs.take len).map fun n => [.int k n]) .ro) (.slice a len cap) ∧ (zs.take len).length = len := by
  rcases h with ⟨rfl, rfl, rfl, rfl⟩ | ⟨x, rfl, hl, hm, hz, hc⟩
  · exact ⟨TRel.nilSl _ _ _ (.inl rfl), rfl⟩
  · have hlen : (zs.take len).length = len := by rw [List.length_take]; omega
    refine ⟨?_, hlen⟩
    have hn : ((zs.take len).map fun n => [PV.int k n]).length = len := by simpa using hlen
    have main : TRel (K0 W) (.sl 1 ((zs.take len).map fun n => [.int k n]) .ro) (.slice (some x) ((zs.take len).map fun n => [PV.int k n]).length cap) := by
      refine .sl 1 _ .ro (some x) cap x.block x.off (fun j _ => .int k (zs.getD j 0)) (fun j e he => ?_) (fun hne => ?_) (fun j i hj hi => ?_) (fun j i e p he hp => ?_) (fun _ _ => rfl) (by omega) hm (fun q => by cases q) (.inl rfl)
      · rw [List.getElem?_map] at he
        obtain ⟨n, _, rfl⟩ := Option.map_eq_some_iff.1 he
        rfl
      · have h0 : 0 < zs.length := by
          have : 0 < ((zs.take len).map fun n => [PV.int k n]).length := List.length_pos_iff.2 hne
          omega
        have := hc 0 h0
        simp only [Addr.add, if_true] at this
        have hs : x.spot = none := by
          unfold World.cell? at this
          split at this
          · split at this
            · cases this
            · rename_i hs; simpa using hs
          · cases this
        obtain ⟨b, o, s⟩ := x
        simp only at hs
        subst hs
        rfl
      · have hi0 : i = 0 := by omega
        subst hi0
        have hj' : j < zs.length := by omega
        have := hc j hj'
        unfold K0
        by_cases j0 : j = 0
        · subst j0
          simp only [Addr.add, if_true] at this
          have hs : x.spot = none := by
            unfold World.cell? at this
            split at this
            · split at this
              · cases this
              · rename_i hs; simpa using hs
            · cases this
          obtain ⟨b, o, s⟩ := x
          simp only at hs
          subst hs
          simpa using this
        · simp only [Addr.add, if_neg j0] at this
          simpa using this
      · rw [List.getElem?_map] at he
        obtain ⟨n, hn', rfl⟩ := Option.map_eq_some_iff.1 he
        cases i with
        | zero =>
          simp at hp
          subst hp
          have : zs[j]? = some n := by
            have hj : j < len := by
              have := (List.getElem?_eq_some_iff.1 hn').1
              omega
            rw [List.getElem?_take_of_lt hj] at hn'
            exact hn'
          rw [List.getD_eq_getElem?_getD, this]
          exact .int k n
        | succ i => simp at hp
    rw [hn] at main
    exact main
end Go.Pv
