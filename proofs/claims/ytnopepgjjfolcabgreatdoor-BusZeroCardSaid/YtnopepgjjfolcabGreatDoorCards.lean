/-
  DERIVED. GIVEN WITH THE SEED: THE CARDS: each row of YtnopepgjjfolcabGreatDoorRows.lean that lists a variable, with what it lists TIED to the program's text (the seventh form; the later family's looks); each row that meets fmt, with fmt's text TOLD by the authors' own Lean function (tested against real Go, not proved from fmt's source: count such statements apart). THE CARD IS WHAT COUNTS. Prove the row's statement (the work); the ties are given (YtnopepgjjfolcabGreatDoorTie.lean); close each card by the builder's one call (the guide's Derived/Test/ToyasCard.lean, 'card_holds'). Laid BY PROGRAM, IN A SANDBOX (cutbox-door.mjs). By AI agents, Wed Nov 11 2026. No macro, syntax, notation, axiom, sorry.
-/
import Derived.Test.YtnopepgjjfolcabGreatDoorRows
import GoSem.ClaimSeven
namespace Go.Proofs.YtnopepgjjfolcabGreatDoor
namespace Rows

/-- THE TIED CARD OF 'tenementlaw11.BusZero'. -/
def busZeroCard : Claim7 := { stood := { row := busZeroRow, standIns := [], harness := (true, "4ba08e60d26327ef36014c0454e416214125135b90df663bc323251a1cb5d657"), looks := true }, kinds := [], alts := [], laidByText := true, laidKinds := [.data, .data, .data, .data, .pinned], laidTests := true, laidLooks := .later }
def BusZeroCardSaid : Prop := Claim7.holds Tryz.pinned (.plain (OpenSpec.ofChange busZeroSpec)) busZeroCard

/-- THE SECOND FORM's CARD OF 'tenementlaw11.BusZero'. -/
def busZeroUptoCard : Claim7 := { stood := { row := busZeroUptoRow, standIns := [], harness := (true, "4ba08e60d26327ef36014c0454e416214125135b90df663bc323251a1cb5d657"), looks := true }, kinds := [], alts := [], laidByText := true, laidKinds := [.data, .data, .data, .data, .pinned], laidTests := true, laidLooks := .later }
def BusZeroUptoCardSaid : Prop := Claim7.holds Tryz.pinned (.plain (OpenSpec.upto busZeroSpec)) busZeroUptoCard
end Rows
end Go.Proofs.YtnopepgjjfolcabGreatDoor
