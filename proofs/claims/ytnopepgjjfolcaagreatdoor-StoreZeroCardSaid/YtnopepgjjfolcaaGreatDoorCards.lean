/-
  DERIVED. GIVEN WITH THE SEED: THE CARDS: each row of YtnopepgjjfolcaaGreatDoorRows.lean that lists a variable, with what it lists TIED to the program's text (the seventh form; the later family's looks); each row that meets fmt, with fmt's text TOLD by the authors' own Lean function (tested against real Go, not proved from fmt's source: count such statements apart). THE CARD IS WHAT COUNTS. Prove the row's statement (the work); the ties are given (YtnopepgjjfolcaaGreatDoorTie.lean); close each card by the builder's one call (the guide's Derived/Test/ToyasCard.lean, 'card_holds'). Laid BY PROGRAM, IN A SANDBOX (cutbox-door.mjs). By AI agents, Wed Nov 11 2026. No macro, syntax, notation, axiom, sorry.
-/
import Derived.Test.YtnopepgjjfolcaaGreatDoorRows
import GoSem.ClaimSeven
namespace Go.Proofs.YtnopepgjjfolcaaGreatDoor
namespace Rows

/-- THE TIED CARD OF 'tenementlaw10.StoreZero'. -/
def storeZeroCard : Claim7 := { stood := { row := storeZeroRow, standIns := [], harness := (true, "eb2a83fc4fc56893f45d465ce6a7426546e315fa71d9eb93d93abf8273cbc669"), looks := false }, kinds := [], alts := [], laidByText := true, laidKinds := [.data, .pinned], laidTests := true, laidLooks := .later }
def StoreZeroCardSaid : Prop := Claim7.holds Tryz.pinned (.plain (OpenSpec.ofChange storeZeroSpec)) storeZeroCard

/-- THE SECOND FORM's CARD OF 'tenementlaw10.StoreZero'. -/
def storeZeroUptoCard : Claim7 := { stood := { row := storeZeroUptoRow, standIns := [], harness := (true, "eb2a83fc4fc56893f45d465ce6a7426546e315fa71d9eb93d93abf8273cbc669"), looks := false }, kinds := [], alts := [], laidByText := true, laidKinds := [.data, .pinned], laidTests := true, laidLooks := .later }
def StoreZeroUptoCardSaid : Prop := Claim7.holds Tryz.pinned (.plain (OpenSpec.upto storeZeroSpec)) storeZeroUptoCard
end Rows
end Go.Proofs.YtnopepgjjfolcaaGreatDoor
