/-
  DERIVED. GIVEN WITH THE SEED: THE CARDS: each row of YtgbaaobgnpjhcaaGreatDoorRows.lean that lists a variable, with what it lists TIED to the program's text (the seventh form; the later family's looks); each row that meets fmt, with fmt's text TOLD by the authors' own Lean function (tested against real Go, not proved from fmt's source: count such statements apart). THE CARD IS WHAT COUNTS. Prove the row's statement (the work); the ties are given (YtgbaaobgnpjhcaaGreatDoorTie.lean); close each card by the builder's one call (the guide's Derived/Test/ToyasCard.lean, 'card_holds'). Laid BY PROGRAM, IN A SANDBOX (cutbox-door.mjs). By AI agents, Wed Nov 11 2026. No macro, syntax, notation, axiom, sorry.
-/
import Derived.Test.YtgbaaobgnpjhcaaGreatDoorRows
import GoSem.ClaimSeven
namespace Go.Proofs.YtgbaaobgnpjhcaaGreatDoor
namespace Rows

/-- THE TIED CARD OF 'unicodetextlaw43.ColltableChecks'. -/
def colltableChecksCard : Claim7 := { stood := { row := colltableChecksRow, standIns := [], harness := (true, "2ea143d9b545d4cc7d5ad950bc38a8f0e182b51e41dac38438532cba9b85fed6"), looks := false }, kinds := [], alts := [], laidByText := true, laidKinds := [.data, .data, .data, .data], laidTests := true, laidLooks := .later }
def ColltableChecksCardSaid : Prop := Claim7.holds Tryz.pinned (.plain (OpenSpec.ofChange colltableChecksSpec)) colltableChecksCard

/-- THE TIED CARD OF 'unicodetextlaw43.ColltableSteps'. -/
def colltableStepsCard : Claim7 := { stood := { row := colltableStepsRow, standIns := [], harness := (true, "2ea143d9b545d4cc7d5ad950bc38a8f0e182b51e41dac38438532cba9b85fed6"), looks := false }, kinds := [], alts := [], laidByText := true, laidKinds := [.data, .data, .data, .data], laidTests := true, laidLooks := .later }
def ColltableStepsCardSaid : Prop := Claim7.holds Tryz.pinned (.plain (OpenSpec.ofChange colltableStepsSpec)) colltableStepsCard

/-- THE TIED CARD OF 'unicodetextlaw43.ColltableFinds'. -/
def colltableFindsCard : Claim7 := { stood := { row := colltableFindsRow, standIns := [], harness := (true, "2ea143d9b545d4cc7d5ad950bc38a8f0e182b51e41dac38438532cba9b85fed6"), looks := false }, kinds := [], alts := [], laidByText := true, laidKinds := [.data, .data, .data, .data], laidTests := true, laidLooks := .later }
def ColltableFindsCardSaid : Prop := Claim7.holds Tryz.pinned (.plain (OpenSpec.ofChange colltableFindsSpec)) colltableFindsCard

/-- THE TIED CARD OF 'unicodetextlaw43.ColltableLongest'. -/
def colltableLongestCard : Claim7 := { stood := { row := colltableLongestRow, standIns := [], harness := (true, "2ea143d9b545d4cc7d5ad950bc38a8f0e182b51e41dac38438532cba9b85fed6"), looks := false }, kinds := [], alts := [], laidByText := true, laidKinds := [.data, .data, .data, .data], laidTests := true, laidLooks := .later }
def ColltableLongestCardSaid : Prop := Claim7.holds Tryz.pinned (.plain (OpenSpec.ofChange colltableLongestSpec)) colltableLongestCard

/-- THE TIED CARD OF 'unicodetextlaw43.ColltableWalks'. -/
def colltableWalksCard : Claim7 := { stood := { row := colltableWalksRow, standIns := [], harness := (true, "2ea143d9b545d4cc7d5ad950bc38a8f0e182b51e41dac38438532cba9b85fed6"), looks := false }, kinds := [], alts := [], laidByText := true, laidKinds := [.data, .data, .data, .data], laidTests := true, laidLooks := .later }
def ColltableWalksCardSaid : Prop := Claim7.holds Tryz.pinned (.plain (OpenSpec.ofChange colltableWalksSpec)) colltableWalksCard

/-- THE TIED CARD OF 'unicodetextlaw43.ColltableJoins'. -/
def colltableJoinsCard : Claim7 := { stood := { row := colltableJoinsRow, standIns := [], harness := (true, "2ea143d9b545d4cc7d5ad950bc38a8f0e182b51e41dac38438532cba9b85fed6"), looks := false }, kinds := [], alts := [], laidByText := true, laidKinds := [.data, .data, .data, .data], laidTests := true, laidLooks := .later }
def ColltableJoinsCardSaid : Prop := Claim7.holds Tryz.pinned (.plain (OpenSpec.ofChange colltableJoinsSpec)) colltableJoinsCard

/-- THE TIED CARD OF 'unicodetextlaw43.ColltableElements'. -/
def colltableElementsCard : Claim7 := { stood := { row := colltableElementsRow, standIns := [], harness := (true, "2ea143d9b545d4cc7d5ad950bc38a8f0e182b51e41dac38438532cba9b85fed6"), looks := false }, kinds := [], alts := [], laidByText := true, laidKinds := [.data, .data, .data, .data], laidTests := true, laidLooks := .later }
def ColltableElementsCardSaid : Prop := Claim7.holds Tryz.pinned (.plain (OpenSpec.ofChange colltableElementsSpec)) colltableElementsCard

/-- THE TIED CARD OF 'unicodetextlaw43.ColltableSame'. -/
def colltableSameCard : Claim7 := { stood := { row := colltableSameRow, standIns := [], harness := (true, "2ea143d9b545d4cc7d5ad950bc38a8f0e182b51e41dac38438532cba9b85fed6"), looks := false }, kinds := [], alts := [], laidByText := true, laidKinds := [.data, .data, .data, .data], laidTests := true, laidLooks := .later }
def ColltableSameCardSaid : Prop := Claim7.holds Tryz.pinned (.plain (OpenSpec.ofChange colltableSameSpec)) colltableSameCard

/-- THE TIED CARD OF 'unicodetextlaw43.ColltableRefuses'. -/
def colltableRefusesCard : Claim7 := { stood := { row := colltableRefusesRow, standIns := [], harness := (true, "2ea143d9b545d4cc7d5ad950bc38a8f0e182b51e41dac38438532cba9b85fed6"), looks := false }, kinds := [], alts := [], laidByText := true, laidKinds := [.data, .data, .data, .data], laidTests := true, laidLooks := .later }
def ColltableRefusesCardSaid : Prop := Claim7.holds Tryz.pinned (.plain (OpenSpec.ofChange colltableRefusesSpec)) colltableRefusesCard

/-- THE SECOND FORM's CARD OF 'unicodetextlaw43.ColltableChecks'. -/
def colltableChecksUptoCard : Claim7 := { stood := { row := colltableChecksUptoRow, standIns := [], harness := (true, "2ea143d9b545d4cc7d5ad950bc38a8f0e182b51e41dac38438532cba9b85fed6"), looks := false }, kinds := [], alts := [], laidByText := true, laidKinds := [.data, .data, .data, .data], laidTests := true, laidLooks := .later }
def ColltableChecksUptoCardSaid : Prop := Claim7.holds Tryz.pinned (.plain (OpenSpec.upto colltableChecksSpec)) colltableChecksUptoCard

/-- THE SECOND FORM's CARD OF 'unicodetextlaw43.ColltableSteps'. -/
def colltableStepsUptoCard : Claim7 := { stood := { row := colltableStepsUptoRow, standIns := [], harness := (true, "2ea143d9b545d4cc7d5ad950bc38a8f0e182b51e41dac38438532cba9b85fed6"), looks := false }, kinds := [], alts := [], laidByText := true, laidKinds := [.data, .data, .data, .data], laidTests := true, laidLooks := .later }
def ColltableStepsUptoCardSaid : Prop := Claim7.holds Tryz.pinned (.plain (OpenSpec.upto colltableStepsSpec)) colltableStepsUptoCard

/-- THE SECOND FORM's CARD OF 'unicodetextlaw43.ColltableFinds'. -/
def colltableFindsUptoCard : Claim7 := { stood := { row := colltableFindsUptoRow, standIns := [], harness := (true, "2ea143d9b545d4cc7d5ad950bc38a8f0e182b51e41dac38438532cba9b85fed6"), looks := false }, kinds := [], alts := [], laidByText := true, laidKinds := [.data, .data, .data, .data], laidTests := true, laidLooks := .later }
def ColltableFindsUptoCardSaid : Prop := Claim7.holds Tryz.pinned (.plain (OpenSpec.upto colltableFindsSpec)) colltableFindsUptoCard

/-- THE SECOND FORM's CARD OF 'unicodetextlaw43.ColltableLongest'. -/
def colltableLongestUptoCard : Claim7 := { stood := { row := colltableLongestUptoRow, standIns := [], harness := (true, "2ea143d9b545d4cc7d5ad950bc38a8f0e182b51e41dac38438532cba9b85fed6"), looks := false }, kinds := [], alts := [], laidByText := true, laidKinds := [.data, .data, .data, .data], laidTests := true, laidLooks := .later }
def ColltableLongestUptoCardSaid : Prop := Claim7.holds Tryz.pinned (.plain (OpenSpec.upto colltableLongestSpec)) colltableLongestUptoCard

/-- THE SECOND FORM's CARD OF 'unicodetextlaw43.ColltableWalks'. -/
def colltableWalksUptoCard : Claim7 := { stood := { row := colltableWalksUptoRow, standIns := [], harness := (true, "2ea143d9b545d4cc7d5ad950bc38a8f0e182b51e41dac38438532cba9b85fed6"), looks := false }, kinds := [], alts := [], laidByText := true, laidKinds := [.data, .data, .data, .data], laidTests := true, laidLooks := .later }
def ColltableWalksUptoCardSaid : Prop := Claim7.holds Tryz.pinned (.plain (OpenSpec.upto colltableWalksSpec)) colltableWalksUptoCard

/-- THE SECOND FORM's CARD OF 'unicodetextlaw43.ColltableJoins'. -/
def colltableJoinsUptoCard : Claim7 := { stood := { row := colltableJoinsUptoRow, standIns := [], harness := (true, "2ea143d9b545d4cc7d5ad950bc38a8f0e182b51e41dac38438532cba9b85fed6"), looks := false }, kinds := [], alts := [], laidByText := true, laidKinds := [.data, .data, .data, .data], laidTests := true, laidLooks := .later }
def ColltableJoinsUptoCardSaid : Prop := Claim7.holds Tryz.pinned (.plain (OpenSpec.upto colltableJoinsSpec)) colltableJoinsUptoCard

/-- THE SECOND FORM's CARD OF 'unicodetextlaw43.ColltableElements'. -/
def colltableElementsUptoCard : Claim7 := { stood := { row := colltableElementsUptoRow, standIns := [], harness := (true, "2ea143d9b545d4cc7d5ad950bc38a8f0e182b51e41dac38438532cba9b85fed6"), looks := false }, kinds := [], alts := [], laidByText := true, laidKinds := [.data, .data, .data, .data], laidTests := true, laidLooks := .later }
def ColltableElementsUptoCardSaid : Prop := Claim7.holds Tryz.pinned (.plain (OpenSpec.upto colltableElementsSpec)) colltableElementsUptoCard

/-- THE SECOND FORM's CARD OF 'unicodetextlaw43.ColltableSame'. -/
def colltableSameUptoCard : Claim7 := { stood := { row := colltableSameUptoRow, standIns := [], harness := (true, "2ea143d9b545d4cc7d5ad950bc38a8f0e182b51e41dac38438532cba9b85fed6"), looks := false }, kinds := [], alts := [], laidByText := true, laidKinds := [.data, .data, .data, .data], laidTests := true, laidLooks := .later }
def ColltableSameUptoCardSaid : Prop := Claim7.holds Tryz.pinned (.plain (OpenSpec.upto colltableSameSpec)) colltableSameUptoCard

/-- THE SECOND FORM's CARD OF 'unicodetextlaw43.ColltableRefuses'. -/
def colltableRefusesUptoCard : Claim7 := { stood := { row := colltableRefusesUptoRow, standIns := [], harness := (true, "2ea143d9b545d4cc7d5ad950bc38a8f0e182b51e41dac38438532cba9b85fed6"), looks := false }, kinds := [], alts := [], laidByText := true, laidKinds := [.data, .data, .data, .data], laidTests := true, laidLooks := .later }
def ColltableRefusesUptoCardSaid : Prop := Claim7.holds Tryz.pinned (.plain (OpenSpec.upto colltableRefusesSpec)) colltableRefusesUptoCard
end Rows
end Go.Proofs.YtgbaaobgnpjhcaaGreatDoor
