/-
  No cell of these rows narrows 'for every input' (looked for: loops, veiled, ifaces, maps, wideKeys, modest, calm, conditions, laid).
  DERIVED. THE GIVEN ROWS OF THIS SEAT. 5 by the template 'for every input the law returns true; each argument reads behind the call as it read before'; 0 by the template 'total and deterministic' (their statements: YtbfmlkdpeaeblaaTotals.lean).
  GIVEN WITH THE SEED: the statements are not yours to turn. If you find one false, say at which input.
  Laid BY PROGRAM, IN A SANDBOX (cutbox-rows.mjs): the forced cells as the released guide's own fill.sh prints them over the translation 938481e743a1caeb… (all of the seat's roots in one cut). By AI agents, Wed Nov 11 2026. No macro, syntax, notation, axiom, sorry.
-/
import Derived.Test.YtbfmlkdpeaeblaaChecked
import GoSem.Claim
import GoSem.ClaimJoined
import GoSem.ClaimMapViews
import Derived.JoinedTies
import Derived.KernelRfl
namespace Go.Proofs.Ytbfmlkdpeaeblaa
/- THE CELL 'sum', in the pinned program and in every row, IS THE sha256 OF THE DUMP (.gsa) THAT YtbfmlkdpeaeblaaProg.lean LOADS. Nothing in Lean hashes anything: it is a label: what it is worth is what the hold of that sum in a sandbox is worth. -/
noncomputable def Try.pinned : Pinned := { name := "ytbfmlkdpeaeblaa", sum := "938481e743a1caebd9272e5dba7381ab6da8d476bd833b7e5fea47e0d3e64328", checked := Try.checked }
namespace Rows
def none {H : Type} : Left H := { results := [], args := [] }

/-- 'unicodetextlaw48.KeypackPacks': WHATEVER THE INPUT: true; the input reads as it did. -/
def keypackPacksSpec : ChangeSpec := { name := "keypackPacks", fn := fun _ => fun
  | [d1, d2] => { results := [.lit (.bool true)], args := [d1, d2] }
  | _ => none }
def keypackPacksRow : OpenClaim := { program := "ytbfmlkdpeaeblaa", sum := "938481e743a1caebd9272e5dba7381ab6da8d476bd833b7e5fea47e0d3e64328", func := "unicodetext/unicodetextlaw48.KeypackPacks", spec := "keypackPacks", unfollowed := true, recurses := true, apart := false }
def KeypackPacksSaid : Prop := keypackPacksRow.holds Try.pinned (OpenSpec.ofChange keypackPacksSpec)

/-- ITS FALSE NEIGHBOUR: 'it returns false'. Refute it at one input. -/
def keypackPacksWrong : ChangeSpec := { name := "keypackPacks", fn := fun _ => fun
  | [d1, d2] => { results := [.lit (.bool false)], args := [d1, d2] }
  | _ => none }
def KeypackPacksWrongFalsely : Prop := keypackPacksRow.holds Try.pinned (OpenSpec.ofChange keypackPacksWrong)

/-- 'unicodetextlaw48.KeypackReturns': WHATEVER THE INPUT: true; the input reads as it did. -/
def keypackReturnsSpec : ChangeSpec := { name := "keypackReturns", fn := fun _ => fun
  | [d1, d2] => { results := [.lit (.bool true)], args := [d1, d2] }
  | _ => none }
def keypackReturnsRow : OpenClaim := { program := "ytbfmlkdpeaeblaa", sum := "938481e743a1caebd9272e5dba7381ab6da8d476bd833b7e5fea47e0d3e64328", func := "unicodetext/unicodetextlaw48.KeypackReturns", spec := "keypackReturns", unfollowed := true, recurses := true, apart := false }
def KeypackReturnsSaid : Prop := keypackReturnsRow.holds Try.pinned (OpenSpec.ofChange keypackReturnsSpec)

/-- ITS FALSE NEIGHBOUR: 'it returns false'. Refute it at one input. -/
def keypackReturnsWrong : ChangeSpec := { name := "keypackReturns", fn := fun _ => fun
  | [d1, d2] => { results := [.lit (.bool false)], args := [d1, d2] }
  | _ => none }
def KeypackReturnsWrongFalsely : Prop := keypackReturnsRow.holds Try.pinned (OpenSpec.ofChange keypackReturnsWrong)

/-- 'unicodetextlaw48.KeypackOrders': WHATEVER THE INPUT: true; the input reads as it did. -/
def keypackOrdersSpec : ChangeSpec := { name := "keypackOrders", fn := fun _ => fun
  | [d1, d2, d3] => { results := [.lit (.bool true)], args := [d1, d2, d3] }
  | _ => none }
def keypackOrdersRow : OpenClaim := { program := "ytbfmlkdpeaeblaa", sum := "938481e743a1caebd9272e5dba7381ab6da8d476bd833b7e5fea47e0d3e64328", func := "unicodetext/unicodetextlaw48.KeypackOrders", spec := "keypackOrders", unfollowed := true, recurses := true, apart := false }
def KeypackOrdersSaid : Prop := keypackOrdersRow.holds Try.pinned (OpenSpec.ofChange keypackOrdersSpec)

/-- ITS FALSE NEIGHBOUR: 'it returns false'. Refute it at one input. -/
def keypackOrdersWrong : ChangeSpec := { name := "keypackOrders", fn := fun _ => fun
  | [d1, d2, d3] => { results := [.lit (.bool false)], args := [d1, d2, d3] }
  | _ => none }
def KeypackOrdersWrongFalsely : Prop := keypackOrdersRow.holds Try.pinned (OpenSpec.ofChange keypackOrdersWrong)

/-- 'unicodetextlaw48.KeypackVarints': WHATEVER THE INPUT: true; the input reads as it did. -/
def keypackVarintsSpec : ChangeSpec := { name := "keypackVarints", fn := fun _ => fun
  | [d1, d2] => { results := [.lit (.bool true)], args := [d1, d2] }
  | _ => none }
def keypackVarintsRow : OpenClaim := { program := "ytbfmlkdpeaeblaa", sum := "938481e743a1caebd9272e5dba7381ab6da8d476bd833b7e5fea47e0d3e64328", func := "unicodetext/unicodetextlaw48.KeypackVarints", spec := "keypackVarints", unfollowed := true, recurses := true, apart := false }
def KeypackVarintsSaid : Prop := keypackVarintsRow.holds Try.pinned (OpenSpec.ofChange keypackVarintsSpec)

/-- ITS FALSE NEIGHBOUR: 'it returns false'. Refute it at one input. -/
def keypackVarintsWrong : ChangeSpec := { name := "keypackVarints", fn := fun _ => fun
  | [d1, d2] => { results := [.lit (.bool false)], args := [d1, d2] }
  | _ => none }
def KeypackVarintsWrongFalsely : Prop := keypackVarintsRow.holds Try.pinned (OpenSpec.ofChange keypackVarintsWrong)

/-- 'unicodetextlaw48.KeypackRuns': WHATEVER THE INPUT: true; the input reads as it did. -/
def keypackRunsSpec : ChangeSpec := { name := "keypackRuns", fn := fun _ => fun
  | [d1, d2, d3] => { results := [.lit (.bool true)], args := [d1, d2, d3] }
  | _ => none }
def keypackRunsRow : OpenClaim := { program := "ytbfmlkdpeaeblaa", sum := "938481e743a1caebd9272e5dba7381ab6da8d476bd833b7e5fea47e0d3e64328", func := "unicodetext/unicodetextlaw48.KeypackRuns", spec := "keypackRuns", unfollowed := true, recurses := true, apart := false }
def KeypackRunsSaid : Prop := keypackRunsRow.holds Try.pinned (OpenSpec.ofChange keypackRunsSpec)

/-- ITS FALSE NEIGHBOUR: 'it returns false'. Refute it at one input. -/
def keypackRunsWrong : ChangeSpec := { name := "keypackRuns", fn := fun _ => fun
  | [d1, d2, d3] => { results := [.lit (.bool false)], args := [d1, d2, d3] }
  | _ => none }
def KeypackRunsWrongFalsely : Prop := keypackRunsRow.holds Try.pinned (OpenSpec.ofChange keypackRunsWrong)

/- THE SECOND FORM. 'bulk': how many values and letters a reading holds, each counted each time it is reached (what is shared counts as often as it is met; a slice's spare places count too). A statement '..UptoSaid' is the law's where the arguments, and the package variables that the reading takes, are together of bulk at most 1048576: NARROWER than '..Said'. Prove '..Said' where nothing that the law and all that it calls make is longer than what came in: it says more and counts as full. Else prove '..UptoSaid'. A law counts once. -/
mutual
def uptoBulk {H : Type} : DataW H → Nat
  | .lit (.string bytes) => bytes.length + 1
  | .lit _ => 1
  | .nil => 1
  | .ptr d => uptoBulk d + 1
  | .slice elems spare => uptoBulkAll elems + uptoBulkAll spare + 1
  | .agg parts => uptoBulkAll parts + 1
  | .iface _ d => uptoBulk d + 1
  | .map entries => uptoBulkEntries entries + 1
  | .held _ => 1
def uptoBulkAll {H : Type} : List (DataW H) → Nat
  | [] => 0
  | d :: r => uptoBulk d + uptoBulkAll r
def uptoBulkEntries {H : Type} : List (Lit × DataW H) → Nat
  | [] => 0
  | x :: r => uptoBulkEntry x + uptoBulkEntries r
def uptoBulkEntry {H : Type} : Lit × DataW H → Nat
  | (.string bytes, d) => bytes.length + uptoBulk d + 1
  | (_, d) => uptoBulk d + 1
 end
def uptoSmall : (H : Type) → List (DataW H) → Bool := fun _ ds => decide (uptoBulkAll ds ≤ 1048576)
def OpenSpec.upto (s : _root_.Go.ChangeSpec) : _root_.Go.OpenSpec := { _root_.Go.OpenSpec.ofChange s with cond := some uptoSmall }

/-- 'unicodetextlaw48.KeypackPacks', WHERE WHAT IT READS IS OF BULK AT MOST 1048576: true; the input reads as it did. -/
def keypackPacksUptoRow : OpenClaim := { program := "ytbfmlkdpeaeblaa", sum := "938481e743a1caebd9272e5dba7381ab6da8d476bd833b7e5fea47e0d3e64328", func := "unicodetext/unicodetextlaw48.KeypackPacks", spec := "keypackPacks", unfollowed := true, recurses := true, apart := false, narrowed := true }
def KeypackPacksUptoSaid : Prop := keypackPacksUptoRow.holds Try.pinned (OpenSpec.upto keypackPacksSpec)

/-- 'unicodetextlaw48.KeypackReturns', WHERE WHAT IT READS IS OF BULK AT MOST 1048576: true; the input reads as it did. -/
def keypackReturnsUptoRow : OpenClaim := { program := "ytbfmlkdpeaeblaa", sum := "938481e743a1caebd9272e5dba7381ab6da8d476bd833b7e5fea47e0d3e64328", func := "unicodetext/unicodetextlaw48.KeypackReturns", spec := "keypackReturns", unfollowed := true, recurses := true, apart := false, narrowed := true }
def KeypackReturnsUptoSaid : Prop := keypackReturnsUptoRow.holds Try.pinned (OpenSpec.upto keypackReturnsSpec)

/-- 'unicodetextlaw48.KeypackOrders', WHERE WHAT IT READS IS OF BULK AT MOST 1048576: true; the input reads as it did. -/
def keypackOrdersUptoRow : OpenClaim := { program := "ytbfmlkdpeaeblaa", sum := "938481e743a1caebd9272e5dba7381ab6da8d476bd833b7e5fea47e0d3e64328", func := "unicodetext/unicodetextlaw48.KeypackOrders", spec := "keypackOrders", unfollowed := true, recurses := true, apart := false, narrowed := true }
def KeypackOrdersUptoSaid : Prop := keypackOrdersUptoRow.holds Try.pinned (OpenSpec.upto keypackOrdersSpec)

/-- 'unicodetextlaw48.KeypackVarints', WHERE WHAT IT READS IS OF BULK AT MOST 1048576: true; the input reads as it did. -/
def keypackVarintsUptoRow : OpenClaim := { program := "ytbfmlkdpeaeblaa", sum := "938481e743a1caebd9272e5dba7381ab6da8d476bd833b7e5fea47e0d3e64328", func := "unicodetext/unicodetextlaw48.KeypackVarints", spec := "keypackVarints", unfollowed := true, recurses := true, apart := false, narrowed := true }
def KeypackVarintsUptoSaid : Prop := keypackVarintsUptoRow.holds Try.pinned (OpenSpec.upto keypackVarintsSpec)

/-- 'unicodetextlaw48.KeypackRuns', WHERE WHAT IT READS IS OF BULK AT MOST 1048576: true; the input reads as it did. -/
def keypackRunsUptoRow : OpenClaim := { program := "ytbfmlkdpeaeblaa", sum := "938481e743a1caebd9272e5dba7381ab6da8d476bd833b7e5fea47e0d3e64328", func := "unicodetext/unicodetextlaw48.KeypackRuns", spec := "keypackRuns", unfollowed := true, recurses := true, apart := false, narrowed := true }
def KeypackRunsUptoSaid : Prop := keypackRunsUptoRow.holds Try.pinned (OpenSpec.upto keypackRunsSpec)

end Rows
end Go.Proofs.Ytbfmlkdpeaeblaa
