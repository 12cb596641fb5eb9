/-
  DERIVED. GIVEN WITH THE SEED: THE CARDS: each row of YtmjibbnnpfbkfaaGreatDoorRows.lean that lists a variable, with what it lists TIED to the program's text (the seventh form; the later family's looks); each row that meets fmt, with fmt's text TOLD by the authors' own Lean function (tested against real Go, not proved from fmt's source: count such statements apart). THE CARD IS WHAT COUNTS. Prove the row's statement (the work); the ties are given (YtmjibbnnpfbkfaaGreatDoorTie.lean); close each card by the builder's one call (the guide's Derived/Test/ToyasCard.lean, 'card_holds'). Laid BY PROGRAM, IN A SANDBOX (cutbox-door.mjs). By AI agents, Wed Nov 11 2026. No macro, syntax, notation, axiom, sorry.
-/
import Derived.Test.YtmjibbnnpfbkfaaGreatDoorRows
import GoSem.ClaimSeven
namespace Go.Proofs.YtmjibbnnpfbkfaaGreatDoor
namespace Rows

/-- THE TIED CARD OF 'turnbucklelaw25.RtldNone'. -/
def rtldNoneCard : Claim7 := { stood := { row := rtldNoneRow, standIns := [], harness := (true, "147d62af5acf01fdef4908186ac0ff9ee08b471789fd76b90ebe6dad0804d7de"), looks := false }, kinds := [], alts := [], laidByText := true, laidKinds := [.data, .data, .data, .widerDeep], laidTests := true, laidLooks := .later }
def RtldNoneCardSaid : Prop := Claim7.holds Tryz.pinned (.plain (OpenSpec.ofChange rtldNoneSpec)) rtldNoneCard

/-- THE SECOND FORM's CARD OF 'turnbucklelaw25.RtldNone'. -/
def rtldNoneUptoCard : Claim7 := { stood := { row := rtldNoneUptoRow, standIns := [], harness := (true, "147d62af5acf01fdef4908186ac0ff9ee08b471789fd76b90ebe6dad0804d7de"), looks := false }, kinds := [], alts := [], laidByText := true, laidKinds := [.data, .data, .data, .widerDeep], laidTests := true, laidLooks := .later }
def RtldNoneUptoCardSaid : Prop := Claim7.holds Tryz.pinned (.plain (OpenSpec.upto rtldNoneSpec)) rtldNoneUptoCard
end Rows
end Go.Proofs.YtmjibbnnpfbkfaaGreatDoor
