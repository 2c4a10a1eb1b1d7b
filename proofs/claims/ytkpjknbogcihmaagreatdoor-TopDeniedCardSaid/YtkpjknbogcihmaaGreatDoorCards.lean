/-
  DERIVED. GIVEN WITH THE SEED: THE CARDS: each row of YtkpjknbogcihmaaGreatDoorRows.lean that lists a variable, with what it lists TIED to the program's text (the seventh form; the later family's looks); each row that meets fmt, with fmt's text TOLD by the authors' own Lean function (tested against real Go, not proved from fmt's source: count such statements apart). THE CARD IS WHAT COUNTS. Prove the row's statement (the work); the ties are given (YtkpjknbogcihmaaGreatDoorTie.lean); close each card by the builder's one call (the guide's Derived/Test/ToyasCard.lean, 'card_holds'). Laid BY PROGRAM, IN A SANDBOX (cutbox-door.mjs). By AI agents, Wed Nov 11 2026. No macro, syntax, notation, axiom, sorry.
-/
import Derived.Test.YtkpjknbogcihmaaGreatDoorRows
import GoSem.ClaimSeven
namespace Go.Proofs.YtkpjknbogcihmaaGreatDoor
namespace Rows

/-- THE TIED CARD OF 'stanchiontop.TopDenied'. -/
def topDeniedCard : Claim7 := { stood := { row := topDeniedRow, standIns := [], harness := (true, "9ea4e8db8d77d48e8d480e65d1df8dd1964e439778b8117c7250c65622f9ecb9"), looks := false }, kinds := [], alts := [], laidByText := true, laidKinds := [.data, .data, .data], laidTests := true, laidLooks := .later }
def TopDeniedCardSaid : Prop := Claim7.holds Tryz.pinned (.plain (OpenSpec.ofChange topDeniedSpec)) topDeniedCard

/-- THE SECOND FORM's CARD OF 'stanchiontop.TopDenied'. -/
def topDeniedUptoCard : Claim7 := { stood := { row := topDeniedUptoRow, standIns := [], harness := (true, "9ea4e8db8d77d48e8d480e65d1df8dd1964e439778b8117c7250c65622f9ecb9"), looks := false }, kinds := [], alts := [], laidByText := true, laidKinds := [.data, .data, .data], laidTests := true, laidLooks := .later }
def TopDeniedUptoCardSaid : Prop := Claim7.holds Tryz.pinned (.plain (OpenSpec.upto topDeniedSpec)) topDeniedUptoCard
end Rows
end Go.Proofs.YtkpjknbogcihmaaGreatDoor
