/-
  DERIVED. GIVEN WITH THE SEED: THE CARDS: each row of YtcjpgabpihkcjaaGreatDoorRows.lean that lists a variable, with what it lists TIED to the program's text (the seventh form; the later family's looks); each row that meets fmt, with fmt's text TOLD by the authors' own Lean function (tested against real Go, not proved from fmt's source: count such statements apart). THE CARD IS WHAT COUNTS. Prove the row's statement (the work); the ties are given (YtcjpgabpihkcjaaGreatDoorTie.lean); close each card by the builder's one call (the guide's Derived/Test/ToyasCard.lean, 'card_holds'). Laid BY PROGRAM, IN A SANDBOX (cutbox-door.mjs). By AI agents, Wed Nov 11 2026. No macro, syntax, notation, axiom, sorry.
-/
import Derived.Test.YtcjpgabpihkcjaaGreatDoorRows
import GoSem.ClaimSeven
namespace Go.Proofs.YtcjpgabpihkcjaaGreatDoor
namespace Rows

/-- THE TIED CARD OF 'stanchionlaw32.AclShows'. -/
def aclShowsCard : Claim7 := { stood := { row := aclShowsRow, standIns := [], harness := (true, "d1eaeb01adb7cbbd4318f6109ab63458f0a8114ec8b4888eb89f91c08cabff84"), looks := true }, kinds := [], alts := [], laidByText := true, laidKinds := [.data, .data, .data, .data, .sentinel, .sentinel, .pinned], laidTests := true, laidLooks := .later }
def AclShowsCardSaid : Prop := Claim7.holds Tryz.pinned (.plain (OpenSpec.ofChange aclShowsSpec)) aclShowsCard

/-- THE TIED CARD OF 'stanchionlaw32.AclParses'. -/
def aclParsesCard : Claim7 := { stood := { row := aclParsesRow, standIns := [], harness := (true, "d1eaeb01adb7cbbd4318f6109ab63458f0a8114ec8b4888eb89f91c08cabff84"), looks := true }, kinds := [], alts := [], laidByText := true, laidKinds := [.data, .data, .data, .data, .sentinel, .sentinel, .pinned], laidTests := true, laidLooks := .later }
def AclParsesCardSaid : Prop := Claim7.holds Tryz.pinned (.plain (OpenSpec.ofChange aclParsesSpec)) aclParsesCard

/-- THE SECOND FORM's CARD OF 'stanchionlaw32.AclShows'. -/
def aclShowsUptoCard : Claim7 := { stood := { row := aclShowsUptoRow, standIns := [], harness := (true, "d1eaeb01adb7cbbd4318f6109ab63458f0a8114ec8b4888eb89f91c08cabff84"), looks := true }, kinds := [], alts := [], laidByText := true, laidKinds := [.data, .data, .data, .data, .sentinel, .sentinel, .pinned], laidTests := true, laidLooks := .later }
def AclShowsUptoCardSaid : Prop := Claim7.holds Tryz.pinned (.plain (OpenSpec.upto aclShowsSpec)) aclShowsUptoCard

/-- THE SECOND FORM's CARD OF 'stanchionlaw32.AclParses'. -/
def aclParsesUptoCard : Claim7 := { stood := { row := aclParsesUptoRow, standIns := [], harness := (true, "d1eaeb01adb7cbbd4318f6109ab63458f0a8114ec8b4888eb89f91c08cabff84"), looks := true }, kinds := [], alts := [], laidByText := true, laidKinds := [.data, .data, .data, .data, .sentinel, .sentinel, .pinned], laidTests := true, laidLooks := .later }
def AclParsesUptoCardSaid : Prop := Claim7.holds Tryz.pinned (.plain (OpenSpec.upto aclParsesSpec)) aclParsesUptoCard
end Rows
end Go.Proofs.YtcjpgabpihkcjaaGreatDoor
