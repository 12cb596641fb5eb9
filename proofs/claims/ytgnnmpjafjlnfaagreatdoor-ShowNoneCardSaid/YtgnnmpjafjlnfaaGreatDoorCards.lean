/-
  DERIVED. GIVEN WITH THE SEED: THE CARDS: each row of YtgnnmpjafjlnfaaGreatDoorRows.lean that lists a variable, with what it lists TIED to the program's text (the seventh form; the later family's looks); each row that meets fmt, with fmt's text TOLD by the authors' own Lean function (tested against real Go, not proved from fmt's source: count such statements apart). THE CARD IS WHAT COUNTS. Prove the row's statement (the work); the ties are given (YtgnnmpjafjlnfaaGreatDoorTie.lean); close each card by the builder's one call (the guide's Derived/Test/ToyasCard.lean, 'card_holds'). Laid BY PROGRAM, IN A SANDBOX (cutbox-door.mjs). By AI agents, Wed Nov 11 2026. No macro, syntax, notation, axiom, sorry.
-/
import Derived.Test.YtgnnmpjafjlnfaaGreatDoorRows
import GoSem.ClaimSeven
namespace Go.Proofs.YtgnnmpjafjlnfaaGreatDoor
namespace Rows

/-- THE TIED CARD OF 'turnbucklelaw30.ShowNone'. -/
def showNoneCard : Claim7 := { stood := { row := showNoneRow, standIns := [], harness := (true, "9a76be737686754da949d38eaae87da0ea9807b875bdab09e6a03571f1cb93e4"), looks := false }, kinds := [], alts := [], laidByText := true, laidKinds := [.data, .data, .data, .data, .data, .data], laidTests := true, laidLooks := .later }
def ShowNoneCardSaid : Prop := Claim7.holds Tryz.pinned (.plain (OpenSpec.ofChange showNoneSpec)) showNoneCard

/-- THE SECOND FORM's CARD OF 'turnbucklelaw30.ShowNone'. -/
def showNoneUptoCard : Claim7 := { stood := { row := showNoneUptoRow, standIns := [], harness := (true, "9a76be737686754da949d38eaae87da0ea9807b875bdab09e6a03571f1cb93e4"), looks := false }, kinds := [], alts := [], laidByText := true, laidKinds := [.data, .data, .data, .data, .data, .data], laidTests := true, laidLooks := .later }
def ShowNoneUptoCardSaid : Prop := Claim7.holds Tryz.pinned (.plain (OpenSpec.upto showNoneSpec)) showNoneUptoCard
end Rows
end Go.Proofs.YtgnnmpjafjlnfaaGreatDoor
