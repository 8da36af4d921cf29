/-
  DERIVED. GIVEN WITH THE SEED: THE CARDS: each row of YtmfllgneeeinkaaDoorRows.lean that lists a variable, with what it lists TIED to the program's text (the seventh form; the later family's looks); each row that meets fmt, with fmt's text TOLD by the authors' own Lean function (tested against real Go, not proved from fmt's source: count such statements apart). THE CARD IS WHAT COUNTS. Prove the row's statement (the work); the ties are given (YtmfllgneeeinkaaDoorTie.lean); close each card by the builder's one call (the guide's Derived/Test/ToyasCard.lean, 'card_holds'). Laid BY PROGRAM, IN A SANDBOX (cutbox-door.mjs). By AI agents, Wed Nov 11 2026. No macro, syntax, notation, axiom, sorry.
-/
import Derived.Test.YtmfllgneeeinkaaDoorRows
import GoSem.ClaimSeven
namespace Go.Proofs.YtmfllgneeeinkaaDoor
namespace Rows

/-- THE TIED CARD OF 'tenementlaw23.ScriptTolds'. -/
def scriptToldsCard : Claim7 := { stood := { row := scriptToldsRow, standIns := [], harness := (true, "899db673ba2ec6963ad7ad497aab0c9dc9813976a496270a4036a8af5b833b42"), looks := false }, kinds := [], alts := [], laidByText := true, laidKinds := [.data, .data, .data, .listed, .data], laidTests := true, laidLooks := .later }
def ScriptToldsCardSaid : Prop := Claim7.holds Tryd.pinned (.plain (OpenSpec.ofChange scriptToldsSpec)) scriptToldsCard

/-- THE SECOND FORM's CARD OF 'tenementlaw23.ScriptTolds'. -/
def scriptToldsUptoCard : Claim7 := { stood := { row := scriptToldsUptoRow, standIns := [], harness := (true, "899db673ba2ec6963ad7ad497aab0c9dc9813976a496270a4036a8af5b833b42"), looks := false }, kinds := [], alts := [], laidByText := true, laidKinds := [.data, .data, .data, .listed, .data], laidTests := true, laidLooks := .later }
def ScriptToldsUptoCardSaid : Prop := Claim7.holds Tryd.pinned (.plain (OpenSpec.upto scriptToldsSpec)) scriptToldsUptoCard
end Rows
end Go.Proofs.YtmfllgneeeinkaaDoor
