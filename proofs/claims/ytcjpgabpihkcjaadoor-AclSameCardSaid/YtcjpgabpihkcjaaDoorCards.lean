/-
  DERIVED. GIVEN WITH THE SEED: THE CARDS: each row of YtcjpgabpihkcjaaDoorRows.lean that lists a variable, with what it lists TIED to the program's text (the seventh form; the later family's looks); each row that meets fmt, with fmt's text TOLD by the authors' own Lean function (tested against real Go, not proved from fmt's source: count such statements apart). THE CARD IS WHAT COUNTS. Prove the row's statement (the work); the ties are given (YtcjpgabpihkcjaaDoorTie.lean); close each card by the builder's one call (the guide's Derived/Test/ToyasCard.lean, 'card_holds'). Laid BY PROGRAM, IN A SANDBOX (cutbox-door.mjs). By AI agents, Wed Nov 11 2026. No macro, syntax, notation, axiom, sorry.
-/
import Derived.Test.YtcjpgabpihkcjaaDoorRows
import GoSem.ClaimSeven
namespace Go.Proofs.YtcjpgabpihkcjaaDoor
namespace Rows

/-- THE TIED CARD OF 'stanchionlaw32.AclHits'. -/
def aclHitsCard : Claim7 := { stood := { row := aclHitsRow, standIns := [], harness := (true, "5fabf0052feda9a612d986fbe88a43d1c9019204fff685e19daf2802657e6331"), looks := true }, kinds := [], alts := [], laidByText := true, laidKinds := [.data, .data, .data], laidTests := true, laidLooks := .later }
def AclHitsCardSaid : Prop := Claim7.holds Tryd.pinned (.plain (OpenSpec.ofChange aclHitsSpec)) aclHitsCard

/-- THE TIED CARD OF 'stanchionlaw32.AclCovers'. -/
def aclCoversCard : Claim7 := { stood := { row := aclCoversRow, standIns := [], harness := (true, "5fabf0052feda9a612d986fbe88a43d1c9019204fff685e19daf2802657e6331"), looks := true }, kinds := [], alts := [], laidByText := true, laidKinds := [.data, .data, .data], laidTests := true, laidLooks := .later }
def AclCoversCardSaid : Prop := Claim7.holds Tryd.pinned (.plain (OpenSpec.ofChange aclCoversSpec)) aclCoversCard

/-- THE TIED CARD OF 'stanchionlaw32.AclIdles'. -/
def aclIdlesCard : Claim7 := { stood := { row := aclIdlesRow, standIns := [], harness := (true, "5fabf0052feda9a612d986fbe88a43d1c9019204fff685e19daf2802657e6331"), looks := true }, kinds := [], alts := [], laidByText := true, laidKinds := [.data, .data, .data], laidTests := true, laidLooks := .later }
def AclIdlesCardSaid : Prop := Claim7.holds Tryd.pinned (.plain (OpenSpec.ofChange aclIdlesSpec)) aclIdlesCard

/-- THE TIED CARD OF 'stanchionlaw32.AclSame'. -/
def aclSameCard : Claim7 := { stood := { row := aclSameRow, standIns := [], harness := (true, "5fabf0052feda9a612d986fbe88a43d1c9019204fff685e19daf2802657e6331"), looks := true }, kinds := [], alts := [], laidByText := true, laidKinds := [.data, .data, .data], laidTests := true, laidLooks := .later }
def AclSameCardSaid : Prop := Claim7.holds Tryd.pinned (.plain (OpenSpec.ofChange aclSameSpec)) aclSameCard

/-- THE TIED CARD OF 'stanchionlaw12.AddrBytes'. -/
def addrBytesCard : Claim7 := { stood := { row := addrBytesRow, standIns := [], harness := (true, "5fabf0052feda9a612d986fbe88a43d1c9019204fff685e19daf2802657e6331"), looks := true }, kinds := [], alts := [], laidByText := true, laidKinds := [.data, .data, .data, .data, .sentinel, .sentinel, .pinned], laidTests := true, laidLooks := .later }
def AddrBytesCardSaid : Prop := Claim7.holds Tryd.pinned (.plain (OpenSpec.ofChange addrBytesSpec)) addrBytesCard

/-- THE TIED CARD OF 'stanchionlaw12.AddrIn'. -/
def addrInCard : Claim7 := { stood := { row := addrInRow, standIns := [], harness := (true, "5fabf0052feda9a612d986fbe88a43d1c9019204fff685e19daf2802657e6331"), looks := true }, kinds := [], alts := [], laidByText := true, laidKinds := [.data, .data, .data, .data, .sentinel, .sentinel, .pinned], laidTests := true, laidLooks := .later }
def AddrInCardSaid : Prop := Claim7.holds Tryd.pinned (.plain (OpenSpec.ofChange addrInSpec)) addrInCard

/-- THE TIED CARD OF 'stanchionlaw12.AddrMasks'. -/
def addrMasksCard : Claim7 := { stood := { row := addrMasksRow, standIns := [], harness := (true, "5fabf0052feda9a612d986fbe88a43d1c9019204fff685e19daf2802657e6331"), looks := true }, kinds := [], alts := [], laidByText := true, laidKinds := [.data, .data, .data, .data, .sentinel, .sentinel, .pinned], laidTests := true, laidLooks := .later }
def AddrMasksCardSaid : Prop := Claim7.holds Tryd.pinned (.plain (OpenSpec.ofChange addrMasksSpec)) addrMasksCard

/-- THE TIED CARD OF 'stanchionlaw12.AddrParses'. -/
def addrParsesCard : Claim7 := { stood := { row := addrParsesRow, standIns := [], harness := (true, "5fabf0052feda9a612d986fbe88a43d1c9019204fff685e19daf2802657e6331"), looks := true }, kinds := [], alts := [], laidByText := true, laidKinds := [.data, .data, .data, .data, .sentinel, .sentinel, .pinned], laidTests := true, laidLooks := .later }
def AddrParsesCardSaid : Prop := Claim7.holds Tryd.pinned (.plain (OpenSpec.ofChange addrParsesSpec)) addrParsesCard

/-- THE TIED CARD OF 'stanchionlaw12.AddrShows'. -/
def addrShowsCard : Claim7 := { stood := { row := addrShowsRow, standIns := [], harness := (true, "5fabf0052feda9a612d986fbe88a43d1c9019204fff685e19daf2802657e6331"), looks := true }, kinds := [], alts := [], laidByText := true, laidKinds := [.data, .data, .data, .data, .sentinel, .sentinel, .pinned], laidTests := true, laidLooks := .later }
def AddrShowsCardSaid : Prop := Claim7.holds Tryd.pinned (.plain (OpenSpec.ofChange addrShowsSpec)) addrShowsCard

/-- THE SECOND FORM's CARD OF 'stanchionlaw32.AclHits'. -/
def aclHitsUptoCard : Claim7 := { stood := { row := aclHitsUptoRow, standIns := [], harness := (true, "5fabf0052feda9a612d986fbe88a43d1c9019204fff685e19daf2802657e6331"), looks := true }, kinds := [], alts := [], laidByText := true, laidKinds := [.data, .data, .data], laidTests := true, laidLooks := .later }
def AclHitsUptoCardSaid : Prop := Claim7.holds Tryd.pinned (.plain (OpenSpec.upto aclHitsSpec)) aclHitsUptoCard

/-- THE SECOND FORM's CARD OF 'stanchionlaw32.AclCovers'. -/
def aclCoversUptoCard : Claim7 := { stood := { row := aclCoversUptoRow, standIns := [], harness := (true, "5fabf0052feda9a612d986fbe88a43d1c9019204fff685e19daf2802657e6331"), looks := true }, kinds := [], alts := [], laidByText := true, laidKinds := [.data, .data, .data], laidTests := true, laidLooks := .later }
def AclCoversUptoCardSaid : Prop := Claim7.holds Tryd.pinned (.plain (OpenSpec.upto aclCoversSpec)) aclCoversUptoCard

/-- THE SECOND FORM's CARD OF 'stanchionlaw32.AclIdles'. -/
def aclIdlesUptoCard : Claim7 := { stood := { row := aclIdlesUptoRow, standIns := [], harness := (true, "5fabf0052feda9a612d986fbe88a43d1c9019204fff685e19daf2802657e6331"), looks := true }, kinds := [], alts := [], laidByText := true, laidKinds := [.data, .data, .data], laidTests := true, laidLooks := .later }
def AclIdlesUptoCardSaid : Prop := Claim7.holds Tryd.pinned (.plain (OpenSpec.upto aclIdlesSpec)) aclIdlesUptoCard

/-- THE SECOND FORM's CARD OF 'stanchionlaw32.AclSame'. -/
def aclSameUptoCard : Claim7 := { stood := { row := aclSameUptoRow, standIns := [], harness := (true, "5fabf0052feda9a612d986fbe88a43d1c9019204fff685e19daf2802657e6331"), looks := true }, kinds := [], alts := [], laidByText := true, laidKinds := [.data, .data, .data], laidTests := true, laidLooks := .later }
def AclSameUptoCardSaid : Prop := Claim7.holds Tryd.pinned (.plain (OpenSpec.upto aclSameSpec)) aclSameUptoCard

/-- THE SECOND FORM's CARD OF 'stanchionlaw12.AddrBytes'. -/
def addrBytesUptoCard : Claim7 := { stood := { row := addrBytesUptoRow, standIns := [], harness := (true, "5fabf0052feda9a612d986fbe88a43d1c9019204fff685e19daf2802657e6331"), looks := true }, kinds := [], alts := [], laidByText := true, laidKinds := [.data, .data, .data, .data, .sentinel, .sentinel, .pinned], laidTests := true, laidLooks := .later }
def AddrBytesUptoCardSaid : Prop := Claim7.holds Tryd.pinned (.plain (OpenSpec.upto addrBytesSpec)) addrBytesUptoCard

/-- THE SECOND FORM's CARD OF 'stanchionlaw12.AddrIn'. -/
def addrInUptoCard : Claim7 := { stood := { row := addrInUptoRow, standIns := [], harness := (true, "5fabf0052feda9a612d986fbe88a43d1c9019204fff685e19daf2802657e6331"), looks := true }, kinds := [], alts := [], laidByText := true, laidKinds := [.data, .data, .data, .data, .sentinel, .sentinel, .pinned], laidTests := true, laidLooks := .later }
def AddrInUptoCardSaid : Prop := Claim7.holds Tryd.pinned (.plain (OpenSpec.upto addrInSpec)) addrInUptoCard

/-- THE SECOND FORM's CARD OF 'stanchionlaw12.AddrMasks'. -/
def addrMasksUptoCard : Claim7 := { stood := { row := addrMasksUptoRow, standIns := [], harness := (true, "5fabf0052feda9a612d986fbe88a43d1c9019204fff685e19daf2802657e6331"), looks := true }, kinds := [], alts := [], laidByText := true, laidKinds := [.data, .data, .data, .data, .sentinel, .sentinel, .pinned], laidTests := true, laidLooks := .later }
def AddrMasksUptoCardSaid : Prop := Claim7.holds Tryd.pinned (.plain (OpenSpec.upto addrMasksSpec)) addrMasksUptoCard

/-- THE SECOND FORM's CARD OF 'stanchionlaw12.AddrParses'. -/
def addrParsesUptoCard : Claim7 := { stood := { row := addrParsesUptoRow, standIns := [], harness := (true, "5fabf0052feda9a612d986fbe88a43d1c9019204fff685e19daf2802657e6331"), looks := true }, kinds := [], alts := [], laidByText := true, laidKinds := [.data, .data, .data, .data, .sentinel, .sentinel, .pinned], laidTests := true, laidLooks := .later }
def AddrParsesUptoCardSaid : Prop := Claim7.holds Tryd.pinned (.plain (OpenSpec.upto addrParsesSpec)) addrParsesUptoCard

/-- THE SECOND FORM's CARD OF 'stanchionlaw12.AddrShows'. -/
def addrShowsUptoCard : Claim7 := { stood := { row := addrShowsUptoRow, standIns := [], harness := (true, "5fabf0052feda9a612d986fbe88a43d1c9019204fff685e19daf2802657e6331"), looks := true }, kinds := [], alts := [], laidByText := true, laidKinds := [.data, .data, .data, .data, .sentinel, .sentinel, .pinned], laidTests := true, laidLooks := .later }
def AddrShowsUptoCardSaid : Prop := Claim7.holds Tryd.pinned (.plain (OpenSpec.upto addrShowsSpec)) addrShowsUptoCard
end Rows
end Go.Proofs.YtcjpgabpihkcjaaDoor
