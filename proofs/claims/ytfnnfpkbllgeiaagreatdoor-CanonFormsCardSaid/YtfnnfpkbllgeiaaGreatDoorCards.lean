/-
  DERIVED. GIVEN WITH THE SEED: THE CARDS: each row of YtfnnfpkbllgeiaaGreatDoorRows.lean that lists a variable, with what it lists TIED to the program's text (the seventh form; the later family's looks); each row that meets fmt, with fmt's text TOLD by the authors' own Lean function (tested against real Go, not proved from fmt's source: count such statements apart). THE CARD IS WHAT COUNTS. Prove the row's statement (the work); the ties are given (YtfnnfpkbllgeiaaGreatDoorTie.lean); close each card by the builder's one call (the guide's Derived/Test/ToyasCard.lean, 'card_holds'). Laid BY PROGRAM, IN A SANDBOX (cutbox-door.mjs). By AI agents, Wed Nov 11 2026. No macro, syntax, notation, axiom, sorry.
-/
import Derived.Test.YtfnnfpkbllgeiaaGreatDoorRows
import GoSem.ClaimSeven
namespace Go.Proofs.YtfnnfpkbllgeiaaGreatDoor
namespace Rows

/-- THE TIED CARD OF 'shortcutlaw12.UrlFrom'. -/
def urlFromCard : Claim7 := { stood := { row := urlFromRow, standIns := [], harness := (true, "0b1507e96f9ac2fc8b84464de0221e1ae52fc3d4b2b991b8e0a3e3b87071f579"), looks := true }, kinds := [], alts := [], laidByText := true, laidKinds := [.data, .data, .data, .data, .sentinel, .sentinel, .data, .data, .pinned, .pinned], laidTests := true, laidLooks := .later }
def UrlFromCardSaid : Prop := Claim7.holds Tryz.pinned (.plain (OpenSpec.ofChange urlFromSpec)) urlFromCard

/-- THE TIED CARD OF 'shortcutlaw15.CanonForms'. -/
def canonFormsCard : Claim7 := { stood := { row := canonFormsRow, standIns := [], harness := (true, "0b1507e96f9ac2fc8b84464de0221e1ae52fc3d4b2b991b8e0a3e3b87071f579"), looks := true }, kinds := [], alts := [], laidByText := true, laidKinds := [.data, .data, .data, .data, .sentinel, .sentinel, .data, .data, .pinned, .pinned], laidTests := true, laidLooks := .later }
def CanonFormsCardSaid : Prop := Claim7.holds Tryz.pinned (.plain (OpenSpec.ofChange canonFormsSpec)) canonFormsCard

/-- THE TIED CARD OF 'shortcutlaw28.ClientForms'. -/
def clientFormsCard : Claim7 := { stood := { row := clientFormsRow, standIns := [], harness := (true, "0b1507e96f9ac2fc8b84464de0221e1ae52fc3d4b2b991b8e0a3e3b87071f579"), looks := true }, kinds := [], alts := [], laidByText := true, laidKinds := [.data, .data, .data, .data, .sentinel, .sentinel, .data, .data, .pinned, .pinned], laidTests := true, laidLooks := .later }
def ClientFormsCardSaid : Prop := Claim7.holds Tryz.pinned (.plain (OpenSpec.ofChange clientFormsSpec)) clientFormsCard

/-- THE SECOND FORM's CARD OF 'shortcutlaw12.UrlFrom'. -/
def urlFromUptoCard : Claim7 := { stood := { row := urlFromUptoRow, standIns := [], harness := (true, "0b1507e96f9ac2fc8b84464de0221e1ae52fc3d4b2b991b8e0a3e3b87071f579"), looks := true }, kinds := [], alts := [], laidByText := true, laidKinds := [.data, .data, .data, .data, .sentinel, .sentinel, .data, .data, .pinned, .pinned], laidTests := true, laidLooks := .later }
def UrlFromUptoCardSaid : Prop := Claim7.holds Tryz.pinned (.plain (OpenSpec.upto urlFromSpec)) urlFromUptoCard

/-- THE SECOND FORM's CARD OF 'shortcutlaw15.CanonForms'. -/
def canonFormsUptoCard : Claim7 := { stood := { row := canonFormsUptoRow, standIns := [], harness := (true, "0b1507e96f9ac2fc8b84464de0221e1ae52fc3d4b2b991b8e0a3e3b87071f579"), looks := true }, kinds := [], alts := [], laidByText := true, laidKinds := [.data, .data, .data, .data, .sentinel, .sentinel, .data, .data, .pinned, .pinned], laidTests := true, laidLooks := .later }
def CanonFormsUptoCardSaid : Prop := Claim7.holds Tryz.pinned (.plain (OpenSpec.upto canonFormsSpec)) canonFormsUptoCard

/-- THE SECOND FORM's CARD OF 'shortcutlaw28.ClientForms'. -/
def clientFormsUptoCard : Claim7 := { stood := { row := clientFormsUptoRow, standIns := [], harness := (true, "0b1507e96f9ac2fc8b84464de0221e1ae52fc3d4b2b991b8e0a3e3b87071f579"), looks := true }, kinds := [], alts := [], laidByText := true, laidKinds := [.data, .data, .data, .data, .sentinel, .sentinel, .data, .data, .pinned, .pinned], laidTests := true, laidLooks := .later }
def ClientFormsUptoCardSaid : Prop := Claim7.holds Tryz.pinned (.plain (OpenSpec.upto clientFormsSpec)) clientFormsUptoCard
end Rows
end Go.Proofs.YtfnnfpkbllgeiaaGreatDoor
