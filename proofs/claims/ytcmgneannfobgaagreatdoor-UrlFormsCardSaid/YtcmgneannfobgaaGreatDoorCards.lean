/-
  DERIVED. GIVEN WITH THE SEED: THE CARDS: each row of YtcmgneannfobgaaGreatDoorRows.lean that lists a variable, with what it lists TIED to the program's text (the seventh form; the later family's looks); each row that meets fmt, with fmt's text TOLD by the authors' own Lean function (tested against real Go, not proved from fmt's source: count such statements apart). THE CARD IS WHAT COUNTS. Prove the row's statement (the work); the ties are given (YtcmgneannfobgaaGreatDoorTie.lean); close each card by the builder's one call (the guide's Derived/Test/ToyasCard.lean, 'card_holds'). Laid BY PROGRAM, IN A SANDBOX (cutbox-door.mjs). By AI agents, Wed Nov 11 2026. No macro, syntax, notation, axiom, sorry.
-/
import Derived.Test.YtcmgneannfobgaaGreatDoorRows
import GoSem.ClaimSeven
namespace Go.Proofs.YtcmgneannfobgaaGreatDoor
namespace Rows

/-- THE TIED CARD OF 'shortcutlaw12.UrlForms'. -/
def urlFormsCard : Claim7 := { stood := { row := urlFormsRow, standIns := [], harness := (true, "2fc0aa566d5a46d9c84782a693da80c0870cc44d33a22caa3e4e9136026add1a"), looks := true }, kinds := [], alts := [], laidByText := true, laidKinds := [.data, .data, .data, .data, .sentinel, .sentinel, .data, .data, .pinned, .pinned], laidTests := true, laidLooks := .later }
def UrlFormsCardSaid : Prop := Claim7.holds Tryz.pinned (.plain (OpenSpec.ofChange urlFormsSpec)) urlFormsCard

/-- THE SECOND FORM's CARD OF 'shortcutlaw12.UrlForms'. -/
def urlFormsUptoCard : Claim7 := { stood := { row := urlFormsUptoRow, standIns := [], harness := (true, "2fc0aa566d5a46d9c84782a693da80c0870cc44d33a22caa3e4e9136026add1a"), looks := true }, kinds := [], alts := [], laidByText := true, laidKinds := [.data, .data, .data, .data, .sentinel, .sentinel, .data, .data, .pinned, .pinned], laidTests := true, laidLooks := .later }
def UrlFormsUptoCardSaid : Prop := Claim7.holds Tryz.pinned (.plain (OpenSpec.upto urlFormsSpec)) urlFormsUptoCard
end Rows
end Go.Proofs.YtcmgneannfobgaaGreatDoor
