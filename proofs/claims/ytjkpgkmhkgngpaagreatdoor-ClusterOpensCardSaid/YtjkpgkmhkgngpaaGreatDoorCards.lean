/-
  DERIVED. GIVEN WITH THE SEED: THE CARDS: each row of YtjkpgkmhkgngpaaGreatDoorRows.lean that lists a variable, with what it lists TIED to the program's text (the seventh form; the later family's looks); each row that meets fmt, with fmt's text TOLD by the authors' own Lean function (tested against real Go, not proved from fmt's source: count such statements apart). THE CARD IS WHAT COUNTS. Prove the row's statement (the work); the ties are given (YtjkpgkmhkgngpaaGreatDoorTie.lean); close each card by the builder's one call (the guide's Derived/Test/ToyasCard.lean, 'card_holds'). Laid BY PROGRAM, IN A SANDBOX (cutbox-door.mjs). By AI agents, Wed Nov 11 2026. No macro, syntax, notation, axiom, sorry.
-/
import Derived.Test.YtjkpgkmhkgngpaaGreatDoorRows
import GoSem.ClaimSeven
namespace Go.Proofs.YtjkpgkmhkgngpaaGreatDoor
namespace Rows

/-- THE TIED CARD OF 'shortcutlaw30.ScriptBytes'. -/
def scriptBytesCard : Claim7 := { stood := { row := scriptBytesRow, standIns := [], harness := (true, "85834191fb7f19d0224effd3ee3cb4dc345325b28f5b370b7f32c07c566cd774"), looks := true }, kinds := [], alts := [], laidByText := true, laidKinds := [.pinned, .data, .pinned, .sentinel, .sentinel, .data, .data, .data, .data, .data], laidTests := true, laidLooks := .later }
def ScriptBytesCardSaid : Prop := Claim7.holds Tryz.pinned (.plain (OpenSpec.ofChange scriptBytesSpec)) scriptBytesCard

/-- THE TIED CARD OF 'shortcutlaw30.ScriptBack'. -/
def scriptBackCard : Claim7 := { stood := { row := scriptBackRow, standIns := [], harness := (true, "85834191fb7f19d0224effd3ee3cb4dc345325b28f5b370b7f32c07c566cd774"), looks := true }, kinds := [], alts := [], laidByText := true, laidKinds := [.pinned, .data, .pinned, .sentinel, .sentinel, .data, .data, .data, .data, .data], laidTests := true, laidLooks := .later }
def ScriptBackCardSaid : Prop := Claim7.holds Tryz.pinned (.plain (OpenSpec.ofChange scriptBackSpec)) scriptBackCard

/-- THE TIED CARD OF 'shortcutlaw30.ScriptParts'. -/
def scriptPartsCard : Claim7 := { stood := { row := scriptPartsRow, standIns := [], harness := (true, "85834191fb7f19d0224effd3ee3cb4dc345325b28f5b370b7f32c07c566cd774"), looks := true }, kinds := [], alts := [], laidByText := true, laidKinds := [.pinned, .data, .pinned, .sentinel, .sentinel, .data, .data, .data, .data, .data], laidTests := true, laidLooks := .later }
def ScriptPartsCardSaid : Prop := Claim7.holds Tryz.pinned (.plain (OpenSpec.ofChange scriptPartsSpec)) scriptPartsCard

/-- THE TIED CARD OF 'shortcutlaw29.ClusterOpens'. -/
def clusterOpensCard : Claim7 := { stood := { row := clusterOpensRow, standIns := [], harness := (true, "85834191fb7f19d0224effd3ee3cb4dc345325b28f5b370b7f32c07c566cd774"), looks := true }, kinds := [], alts := [], laidByText := true, laidKinds := [.pinned, .data, .pinned, .sentinel, .sentinel, .data, .data, .data, .data, .data], laidTests := true, laidLooks := .later }
def ClusterOpensCardSaid : Prop := Claim7.holds Tryz.pinned (.plain (OpenSpec.ofChange clusterOpensSpec)) clusterOpensCard

/-- THE TIED CARD OF 'shortcuttop.TopAgain'. -/
def topAgainCard : Claim7 := { stood := { row := topAgainRow, standIns := [], harness := (true, "85834191fb7f19d0224effd3ee3cb4dc345325b28f5b370b7f32c07c566cd774"), looks := true }, kinds := [], alts := [], laidByText := true, laidKinds := [.pinned, .data, .pinned, .sentinel, .sentinel, .data, .data, .data, .data, .data], laidTests := true, laidLooks := .later }
def TopAgainCardSaid : Prop := Claim7.holds Tryz.pinned (.plain (OpenSpec.ofChange topAgainSpec)) topAgainCard

/-- THE TIED CARD OF 'shortcuttop.TopPast'. -/
def topPastCard : Claim7 := { stood := { row := topPastRow, standIns := [], harness := (true, "85834191fb7f19d0224effd3ee3cb4dc345325b28f5b370b7f32c07c566cd774"), looks := true }, kinds := [], alts := [], laidByText := true, laidKinds := [.pinned, .data, .pinned, .sentinel, .sentinel, .data, .data, .data, .data, .data], laidTests := true, laidLooks := .later }
def TopPastCardSaid : Prop := Claim7.holds Tryz.pinned (.plain (OpenSpec.ofChange topPastSpec)) topPastCard

/-- THE SECOND FORM's CARD OF 'shortcutlaw30.ScriptBytes'. -/
def scriptBytesUptoCard : Claim7 := { stood := { row := scriptBytesUptoRow, standIns := [], harness := (true, "85834191fb7f19d0224effd3ee3cb4dc345325b28f5b370b7f32c07c566cd774"), looks := true }, kinds := [], alts := [], laidByText := true, laidKinds := [.pinned, .data, .pinned, .sentinel, .sentinel, .data, .data, .data, .data, .data], laidTests := true, laidLooks := .later }
def ScriptBytesUptoCardSaid : Prop := Claim7.holds Tryz.pinned (.plain (OpenSpec.upto scriptBytesSpec)) scriptBytesUptoCard

/-- THE SECOND FORM's CARD OF 'shortcutlaw30.ScriptBack'. -/
def scriptBackUptoCard : Claim7 := { stood := { row := scriptBackUptoRow, standIns := [], harness := (true, "85834191fb7f19d0224effd3ee3cb4dc345325b28f5b370b7f32c07c566cd774"), looks := true }, kinds := [], alts := [], laidByText := true, laidKinds := [.pinned, .data, .pinned, .sentinel, .sentinel, .data, .data, .data, .data, .data], laidTests := true, laidLooks := .later }
def ScriptBackUptoCardSaid : Prop := Claim7.holds Tryz.pinned (.plain (OpenSpec.upto scriptBackSpec)) scriptBackUptoCard

/-- THE SECOND FORM's CARD OF 'shortcutlaw30.ScriptParts'. -/
def scriptPartsUptoCard : Claim7 := { stood := { row := scriptPartsUptoRow, standIns := [], harness := (true, "85834191fb7f19d0224effd3ee3cb4dc345325b28f5b370b7f32c07c566cd774"), looks := true }, kinds := [], alts := [], laidByText := true, laidKinds := [.pinned, .data, .pinned, .sentinel, .sentinel, .data, .data, .data, .data, .data], laidTests := true, laidLooks := .later }
def ScriptPartsUptoCardSaid : Prop := Claim7.holds Tryz.pinned (.plain (OpenSpec.upto scriptPartsSpec)) scriptPartsUptoCard

/-- THE SECOND FORM's CARD OF 'shortcutlaw29.ClusterOpens'. -/
def clusterOpensUptoCard : Claim7 := { stood := { row := clusterOpensUptoRow, standIns := [], harness := (true, "85834191fb7f19d0224effd3ee3cb4dc345325b28f5b370b7f32c07c566cd774"), looks := true }, kinds := [], alts := [], laidByText := true, laidKinds := [.pinned, .data, .pinned, .sentinel, .sentinel, .data, .data, .data, .data, .data], laidTests := true, laidLooks := .later }
def ClusterOpensUptoCardSaid : Prop := Claim7.holds Tryz.pinned (.plain (OpenSpec.upto clusterOpensSpec)) clusterOpensUptoCard

/-- THE SECOND FORM's CARD OF 'shortcuttop.TopAgain'. -/
def topAgainUptoCard : Claim7 := { stood := { row := topAgainUptoRow, standIns := [], harness := (true, "85834191fb7f19d0224effd3ee3cb4dc345325b28f5b370b7f32c07c566cd774"), looks := true }, kinds := [], alts := [], laidByText := true, laidKinds := [.pinned, .data, .pinned, .sentinel, .sentinel, .data, .data, .data, .data, .data], laidTests := true, laidLooks := .later }
def TopAgainUptoCardSaid : Prop := Claim7.holds Tryz.pinned (.plain (OpenSpec.upto topAgainSpec)) topAgainUptoCard

/-- THE SECOND FORM's CARD OF 'shortcuttop.TopPast'. -/
def topPastUptoCard : Claim7 := { stood := { row := topPastUptoRow, standIns := [], harness := (true, "85834191fb7f19d0224effd3ee3cb4dc345325b28f5b370b7f32c07c566cd774"), looks := true }, kinds := [], alts := [], laidByText := true, laidKinds := [.pinned, .data, .pinned, .sentinel, .sentinel, .data, .data, .data, .data, .data], laidTests := true, laidLooks := .later }
def TopPastUptoCardSaid : Prop := Claim7.holds Tryz.pinned (.plain (OpenSpec.upto topPastSpec)) topPastUptoCard
end Rows
end Go.Proofs.YtjkpgkmhkgngpaaGreatDoor
