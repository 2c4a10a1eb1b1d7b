/-
  No cell of these rows narrows 'for every input' (looked for: loops, veiled, ifaces, maps, wideKeys, modest, calm, conditions, laid).
  DERIVED. THE GIVEN ROWS OF THIS SEAT. 11 by the template 'for every input the law returns true; each argument reads behind the call as it read before'; 0 by the template 'total and deterministic' (their statements: YtkdhdlfonmgheaaGreatTotals.lean).
  GIVEN WITH THE SEED: the statements are not yours to turn. If you find one false, say at which input.
  Laid BY PROGRAM, IN A SANDBOX (cutbox-rows.mjs): the forced cells as the released guide's own fill.sh prints them over the translation 201bf00b4ffe9c54… (all of the seat's roots in one cut). By AI agents, Wed Nov 11 2026. No macro, syntax, notation, axiom, sorry.
-/
import Derived.Test.YtkdhdlfonmgheaaGreatChecked
import GoSem.Claim
import GoSem.ClaimJoined
import GoSem.ClaimMapViews
import Derived.JoinedTies
import Derived.KernelRfl
namespace Go.Proofs.YtkdhdlfonmgheaaGreat
/- THE CELL 'sum', in the pinned program and in every row, IS THE sha256 OF THE DUMP (.gsa) THAT YtkdhdlfonmgheaaGreatProg.lean LOADS. Nothing in Lean hashes anything: it is a label: what it is worth is what the hold of that sum in a sandbox is worth. -/
noncomputable def Tryz.pinned : Pinned := { name := "ytkdhdlfonmgheaagreat", sum := "201bf00b4ffe9c54a78db4e7ffc5390a9b6e741ea4ddae87c7e5f843df57df5d", checked := Tryz.checked }
namespace Rows
def none {H : Type} : Left H := { results := [], args := [] }

/-- 'stanchionlaw25.AffinFew': WHATEVER THE INPUT: true; the input reads as it did. -/
def affinFewSpec : ChangeSpec := { name := "affinFew", fn := fun _ => fun
  | [d1, d2] => { results := [.lit (.bool true)], args := [d1, d2] }
  | _ => none }
def affinFewRow : OpenClaim := { program := "ytkdhdlfonmgheaagreat", sum := "201bf00b4ffe9c54a78db4e7ffc5390a9b6e741ea4ddae87c7e5f843df57df5d", func := "stanchion/stanchionlaw25.AffinFew", spec := "affinFew", inPlace := ["internal/bytealg.Compare", "slices.overlaps[[]byte]"], unfollowed := true, recurses := true, apart := false }
def AffinFewSaid : Prop := affinFewRow.holds Tryz.pinned (OpenSpec.ofChange affinFewSpec)

/-- ITS FALSE NEIGHBOUR: 'it returns false'. Refute it at one input. -/
def affinFewWrong : ChangeSpec := { name := "affinFew", fn := fun _ => fun
  | [d1, d2] => { results := [.lit (.bool false)], args := [d1, d2] }
  | _ => none }
def AffinFewWrongFalsely : Prop := affinFewRow.holds Tryz.pinned (OpenSpec.ofChange affinFewWrong)

/-- 'stanchionlaw09.StoreRoom': WHATEVER THE INPUT: true; the input reads as it did. -/
def storeRoomSpec : ChangeSpec := { name := "storeRoom", fn := fun _ => fun
  | [d1, d2, d3] => { results := [.lit (.bool true)], args := [d1, d2, d3] }
  | _ => none }
def storeRoomRow : OpenClaim := { program := "ytkdhdlfonmgheaagreat", sum := "201bf00b4ffe9c54a78db4e7ffc5390a9b6e741ea4ddae87c7e5f843df57df5d", func := "stanchion/stanchionlaw09.StoreRoom", spec := "storeRoom", inPlace := ["internal/bytealg.Compare", "slices.overlaps[[]byte]"], unfollowed := true, recurses := true, apart := false }
def StoreRoomSaid : Prop := storeRoomRow.holds Tryz.pinned (OpenSpec.ofChange storeRoomSpec)

/-- ITS FALSE NEIGHBOUR: 'it returns false'. Refute it at one input. -/
def storeRoomWrong : ChangeSpec := { name := "storeRoom", fn := fun _ => fun
  | [d1, d2, d3] => { results := [.lit (.bool false)], args := [d1, d2, d3] }
  | _ => none }
def StoreRoomWrongFalsely : Prop := storeRoomRow.holds Tryz.pinned (OpenSpec.ofChange storeRoomWrong)

/-- 'stanchionlaw25.AffinNone': WHATEVER THE INPUT: true; the input reads as it did. -/
def affinNoneSpec : ChangeSpec := { name := "affinNone", fn := fun _ => fun
  | [d1, d2] => { results := [.lit (.bool true)], args := [d1, d2] }
  | _ => none }
def affinNoneRow : OpenClaim := { program := "ytkdhdlfonmgheaagreat", sum := "201bf00b4ffe9c54a78db4e7ffc5390a9b6e741ea4ddae87c7e5f843df57df5d", func := "stanchion/stanchionlaw25.AffinNone", spec := "affinNone", inPlace := ["internal/bytealg.Compare", "slices.overlaps[[]byte]"], unfollowed := true, recurses := true, apart := false }
def AffinNoneSaid : Prop := affinNoneRow.holds Tryz.pinned (OpenSpec.ofChange affinNoneSpec)

/-- ITS FALSE NEIGHBOUR: 'it returns false'. Refute it at one input. -/
def affinNoneWrong : ChangeSpec := { name := "affinNone", fn := fun _ => fun
  | [d1, d2] => { results := [.lit (.bool false)], args := [d1, d2] }
  | _ => none }
def AffinNoneWrongFalsely : Prop := affinNoneRow.holds Tryz.pinned (OpenSpec.ofChange affinNoneWrong)

/-- 'stanchionlaw25.AffinPlays': WHATEVER THE INPUT: true; the input reads as it did. -/
def affinPlaysSpec : ChangeSpec := { name := "affinPlays", fn := fun _ => fun
  | [d1, d2, d3] => { results := [.lit (.bool true)], args := [d1, d2, d3] }
  | _ => none }
def affinPlaysRow : OpenClaim := { program := "ytkdhdlfonmgheaagreat", sum := "201bf00b4ffe9c54a78db4e7ffc5390a9b6e741ea4ddae87c7e5f843df57df5d", func := "stanchion/stanchionlaw25.AffinPlays", spec := "affinPlays", inPlace := ["internal/bytealg.Compare", "slices.overlaps[[]byte]"], unfollowed := true, recurses := true, apart := false }
def AffinPlaysSaid : Prop := affinPlaysRow.holds Tryz.pinned (OpenSpec.ofChange affinPlaysSpec)

/-- ITS FALSE NEIGHBOUR: 'it returns false'. Refute it at one input. -/
def affinPlaysWrong : ChangeSpec := { name := "affinPlays", fn := fun _ => fun
  | [d1, d2, d3] => { results := [.lit (.bool false)], args := [d1, d2, d3] }
  | _ => none }
def AffinPlaysWrongFalsely : Prop := affinPlaysRow.holds Tryz.pinned (OpenSpec.ofChange affinPlaysWrong)

/-- 'stanchionlaw09.StoreSpoilt': WHATEVER THE INPUT: true; the input reads as it did. -/
def storeSpoiltSpec : ChangeSpec := { name := "storeSpoilt", fn := fun _ => fun
  | [d1, d2] => { results := [.lit (.bool true)], args := [d1, d2] }
  | _ => none }
def storeSpoiltRow : OpenClaim := { program := "ytkdhdlfonmgheaagreat", sum := "201bf00b4ffe9c54a78db4e7ffc5390a9b6e741ea4ddae87c7e5f843df57df5d", func := "stanchion/stanchionlaw09.StoreSpoilt", spec := "storeSpoilt", inPlace := ["internal/bytealg.Compare", "slices.overlaps[[]byte]"], unfollowed := true, recurses := true, apart := false }
def StoreSpoiltSaid : Prop := storeSpoiltRow.holds Tryz.pinned (OpenSpec.ofChange storeSpoiltSpec)

/-- ITS FALSE NEIGHBOUR: 'it returns false'. Refute it at one input. -/
def storeSpoiltWrong : ChangeSpec := { name := "storeSpoilt", fn := fun _ => fun
  | [d1, d2] => { results := [.lit (.bool false)], args := [d1, d2] }
  | _ => none }
def StoreSpoiltWrongFalsely : Prop := storeSpoiltRow.holds Tryz.pinned (OpenSpec.ofChange storeSpoiltWrong)

/-- 'stanchionlaw09.StoreCrash': WHATEVER THE INPUT: true; the input reads as it did. -/
def storeCrashSpec : ChangeSpec := { name := "storeCrash", fn := fun _ => fun
  | [d1, d2, d3] => { results := [.lit (.bool true)], args := [d1, d2, d3] }
  | _ => none }
def storeCrashRow : OpenClaim := { program := "ytkdhdlfonmgheaagreat", sum := "201bf00b4ffe9c54a78db4e7ffc5390a9b6e741ea4ddae87c7e5f843df57df5d", func := "stanchion/stanchionlaw09.StoreCrash", spec := "storeCrash", inPlace := ["internal/bytealg.Compare", "slices.overlaps[[]byte]"], unfollowed := true, recurses := true, apart := false }
def StoreCrashSaid : Prop := storeCrashRow.holds Tryz.pinned (OpenSpec.ofChange storeCrashSpec)

/-- ITS FALSE NEIGHBOUR: 'it returns false'. Refute it at one input. -/
def storeCrashWrong : ChangeSpec := { name := "storeCrash", fn := fun _ => fun
  | [d1, d2, d3] => { results := [.lit (.bool false)], args := [d1, d2, d3] }
  | _ => none }
def StoreCrashWrongFalsely : Prop := storeCrashRow.holds Tryz.pinned (OpenSpec.ofChange storeCrashWrong)

/-- 'stanchionlaw09.StoreFails': WHATEVER THE INPUT: true; the input reads as it did. -/
def storeFailsSpec : ChangeSpec := { name := "storeFails", fn := fun _ => fun
  | [d1, d2, d3] => { results := [.lit (.bool true)], args := [d1, d2, d3] }
  | _ => none }
def storeFailsRow : OpenClaim := { program := "ytkdhdlfonmgheaagreat", sum := "201bf00b4ffe9c54a78db4e7ffc5390a9b6e741ea4ddae87c7e5f843df57df5d", func := "stanchion/stanchionlaw09.StoreFails", spec := "storeFails", inPlace := ["internal/bytealg.Compare", "slices.overlaps[[]byte]"], unfollowed := true, recurses := true, apart := false }
def StoreFailsSaid : Prop := storeFailsRow.holds Tryz.pinned (OpenSpec.ofChange storeFailsSpec)

/-- ITS FALSE NEIGHBOUR: 'it returns false'. Refute it at one input. -/
def storeFailsWrong : ChangeSpec := { name := "storeFails", fn := fun _ => fun
  | [d1, d2, d3] => { results := [.lit (.bool false)], args := [d1, d2, d3] }
  | _ => none }
def StoreFailsWrongFalsely : Prop := storeFailsRow.holds Tryz.pinned (OpenSpec.ofChange storeFailsWrong)

/-- 'stanchionlaw09.StorePlays': WHATEVER THE INPUT: true; the input reads as it did. -/
def storePlaysSpec : ChangeSpec := { name := "storePlays", fn := fun _ => fun
  | [d1, d2, d3] => { results := [.lit (.bool true)], args := [d1, d2, d3] }
  | _ => none }
def storePlaysRow : OpenClaim := { program := "ytkdhdlfonmgheaagreat", sum := "201bf00b4ffe9c54a78db4e7ffc5390a9b6e741ea4ddae87c7e5f843df57df5d", func := "stanchion/stanchionlaw09.StorePlays", spec := "storePlays", inPlace := ["internal/bytealg.Compare", "slices.overlaps[[]byte]"], unfollowed := true, recurses := true, apart := false }
def StorePlaysSaid : Prop := storePlaysRow.holds Tryz.pinned (OpenSpec.ofChange storePlaysSpec)

/-- ITS FALSE NEIGHBOUR: 'it returns false'. Refute it at one input. -/
def storePlaysWrong : ChangeSpec := { name := "storePlays", fn := fun _ => fun
  | [d1, d2, d3] => { results := [.lit (.bool false)], args := [d1, d2, d3] }
  | _ => none }
def StorePlaysWrongFalsely : Prop := storePlaysRow.holds Tryz.pinned (OpenSpec.ofChange storePlaysWrong)

/-- 'stanchionlaw09.StoreNone': WHATEVER THE INPUT: true; the input reads as it did. -/
def storeNoneSpec : ChangeSpec := { name := "storeNone", fn := fun _ => fun
  | [d1, d2] => { results := [.lit (.bool true)], args := [d1, d2] }
  | _ => none }
def storeNoneRow : OpenClaim := { program := "ytkdhdlfonmgheaagreat", sum := "201bf00b4ffe9c54a78db4e7ffc5390a9b6e741ea4ddae87c7e5f843df57df5d", func := "stanchion/stanchionlaw09.StoreNone", spec := "storeNone", inPlace := ["internal/bytealg.Compare", "slices.overlaps[[]byte]"], unfollowed := true, recurses := true, apart := false }
def StoreNoneSaid : Prop := storeNoneRow.holds Tryz.pinned (OpenSpec.ofChange storeNoneSpec)

/-- ITS FALSE NEIGHBOUR: 'it returns false'. Refute it at one input. -/
def storeNoneWrong : ChangeSpec := { name := "storeNone", fn := fun _ => fun
  | [d1, d2] => { results := [.lit (.bool false)], args := [d1, d2] }
  | _ => none }
def StoreNoneWrongFalsely : Prop := storeNoneRow.holds Tryz.pinned (OpenSpec.ofChange storeNoneWrong)

/-- 'stanchionlaw10.FsckPlays': WHATEVER THE INPUT: true; the input reads as it did. -/
def fsckPlaysSpec : ChangeSpec := { name := "fsckPlays", fn := fun _ => fun
  | [d1, d2] => { results := [.lit (.bool true)], args := [d1, d2] }
  | _ => none }
def fsckPlaysRow : OpenClaim := { program := "ytkdhdlfonmgheaagreat", sum := "201bf00b4ffe9c54a78db4e7ffc5390a9b6e741ea4ddae87c7e5f843df57df5d", func := "stanchion/stanchionlaw10.FsckPlays", spec := "fsckPlays", inPlace := ["internal/bytealg.Compare", "slices.overlaps[[]byte]"], unfollowed := true, recurses := true, apart := false }
def FsckPlaysSaid : Prop := fsckPlaysRow.holds Tryz.pinned (OpenSpec.ofChange fsckPlaysSpec)

/-- ITS FALSE NEIGHBOUR: 'it returns false'. Refute it at one input. -/
def fsckPlaysWrong : ChangeSpec := { name := "fsckPlays", fn := fun _ => fun
  | [d1, d2] => { results := [.lit (.bool false)], args := [d1, d2] }
  | _ => none }
def FsckPlaysWrongFalsely : Prop := fsckPlaysRow.holds Tryz.pinned (OpenSpec.ofChange fsckPlaysWrong)

/-- 'stanchionlaw25.AffinLasts': WHATEVER THE INPUT: true; the input reads as it did. -/
def affinLastsSpec : ChangeSpec := { name := "affinLasts", fn := fun _ => fun
  | [d1, d2, d3] => { results := [.lit (.bool true)], args := [d1, d2, d3] }
  | _ => none }
def affinLastsRow : OpenClaim := { program := "ytkdhdlfonmgheaagreat", sum := "201bf00b4ffe9c54a78db4e7ffc5390a9b6e741ea4ddae87c7e5f843df57df5d", func := "stanchion/stanchionlaw25.AffinLasts", spec := "affinLasts", inPlace := ["internal/bytealg.Compare", "slices.overlaps[[]byte]"], unfollowed := true, recurses := true, apart := false }
def AffinLastsSaid : Prop := affinLastsRow.holds Tryz.pinned (OpenSpec.ofChange affinLastsSpec)

/-- ITS FALSE NEIGHBOUR: 'it returns false'. Refute it at one input. -/
def affinLastsWrong : ChangeSpec := { name := "affinLasts", fn := fun _ => fun
  | [d1, d2, d3] => { results := [.lit (.bool false)], args := [d1, d2, d3] }
  | _ => none }
def AffinLastsWrongFalsely : Prop := affinLastsRow.holds Tryz.pinned (OpenSpec.ofChange affinLastsWrong)

/- THE SECOND FORM. 'bulk': how many values and letters a reading holds, each counted each time it is reached (what is shared counts as often as it is met; a slice's spare places count too). A statement '..UptoSaid' is the law's where the arguments, and the package variables that the reading takes, are together of bulk at most 1048576: NARROWER than '..Said'. Prove '..Said' where nothing that the law and all that it calls make is longer than what came in: it says more and counts as full. Else prove '..UptoSaid'. A law counts once. -/
mutual
def uptoBulk {H : Type} : DataW H → Nat
  | .lit (.string bytes) => bytes.length + 1
  | .lit _ => 1
  | .nil => 1
  | .ptr d => uptoBulk d + 1
  | .slice elems spare => uptoBulkAll elems + uptoBulkAll spare + 1
  | .agg parts => uptoBulkAll parts + 1
  | .iface _ d => uptoBulk d + 1
  | .map entries => uptoBulkEntries entries + 1
  | .held _ => 1
def uptoBulkAll {H : Type} : List (DataW H) → Nat
  | [] => 0
  | d :: r => uptoBulk d + uptoBulkAll r
def uptoBulkEntries {H : Type} : List (Lit × DataW H) → Nat
  | [] => 0
  | x :: r => uptoBulkEntry x + uptoBulkEntries r
def uptoBulkEntry {H : Type} : Lit × DataW H → Nat
  | (.string bytes, d) => bytes.length + uptoBulk d + 1
  | (_, d) => uptoBulk d + 1
 end
def uptoSmall : (H : Type) → List (DataW H) → Bool := fun _ ds => decide (uptoBulkAll ds ≤ 1048576)
def OpenSpec.upto (s : _root_.Go.ChangeSpec) : _root_.Go.OpenSpec := { _root_.Go.OpenSpec.ofChange s with cond := some uptoSmall }

/-- 'stanchionlaw25.AffinFew', WHERE WHAT IT READS IS OF BULK AT MOST 1048576: true; the input reads as it did. -/
def affinFewUptoRow : OpenClaim := { program := "ytkdhdlfonmgheaagreat", sum := "201bf00b4ffe9c54a78db4e7ffc5390a9b6e741ea4ddae87c7e5f843df57df5d", func := "stanchion/stanchionlaw25.AffinFew", spec := "affinFew", inPlace := ["internal/bytealg.Compare", "slices.overlaps[[]byte]"], unfollowed := true, recurses := true, apart := false, narrowed := true }
def AffinFewUptoSaid : Prop := affinFewUptoRow.holds Tryz.pinned (OpenSpec.upto affinFewSpec)

/-- 'stanchionlaw09.StoreRoom', WHERE WHAT IT READS IS OF BULK AT MOST 1048576: true; the input reads as it did. -/
def storeRoomUptoRow : OpenClaim := { program := "ytkdhdlfonmgheaagreat", sum := "201bf00b4ffe9c54a78db4e7ffc5390a9b6e741ea4ddae87c7e5f843df57df5d", func := "stanchion/stanchionlaw09.StoreRoom", spec := "storeRoom", inPlace := ["internal/bytealg.Compare", "slices.overlaps[[]byte]"], unfollowed := true, recurses := true, apart := false, narrowed := true }
def StoreRoomUptoSaid : Prop := storeRoomUptoRow.holds Tryz.pinned (OpenSpec.upto storeRoomSpec)

/-- 'stanchionlaw25.AffinNone', WHERE WHAT IT READS IS OF BULK AT MOST 1048576: true; the input reads as it did. -/
def affinNoneUptoRow : OpenClaim := { program := "ytkdhdlfonmgheaagreat", sum := "201bf00b4ffe9c54a78db4e7ffc5390a9b6e741ea4ddae87c7e5f843df57df5d", func := "stanchion/stanchionlaw25.AffinNone", spec := "affinNone", inPlace := ["internal/bytealg.Compare", "slices.overlaps[[]byte]"], unfollowed := true, recurses := true, apart := false, narrowed := true }
def AffinNoneUptoSaid : Prop := affinNoneUptoRow.holds Tryz.pinned (OpenSpec.upto affinNoneSpec)

/-- 'stanchionlaw25.AffinPlays', WHERE WHAT IT READS IS OF BULK AT MOST 1048576: true; the input reads as it did. -/
def affinPlaysUptoRow : OpenClaim := { program := "ytkdhdlfonmgheaagreat", sum := "201bf00b4ffe9c54a78db4e7ffc5390a9b6e741ea4ddae87c7e5f843df57df5d", func := "stanchion/stanchionlaw25.AffinPlays", spec := "affinPlays", inPlace := ["internal/bytealg.Compare", "slices.overlaps[[]byte]"], unfollowed := true, recurses := true, apart := false, narrowed := true }
def AffinPlaysUptoSaid : Prop := affinPlaysUptoRow.holds Tryz.pinned (OpenSpec.upto affinPlaysSpec)

/-- 'stanchionlaw09.StoreSpoilt', WHERE WHAT IT READS IS OF BULK AT MOST 1048576: true; the input reads as it did. -/
def storeSpoiltUptoRow : OpenClaim := { program := "ytkdhdlfonmgheaagreat", sum := "201bf00b4ffe9c54a78db4e7ffc5390a9b6e741ea4ddae87c7e5f843df57df5d", func := "stanchion/stanchionlaw09.StoreSpoilt", spec := "storeSpoilt", inPlace := ["internal/bytealg.Compare", "slices.overlaps[[]byte]"], unfollowed := true, recurses := true, apart := false, narrowed := true }
def StoreSpoiltUptoSaid : Prop := storeSpoiltUptoRow.holds Tryz.pinned (OpenSpec.upto storeSpoiltSpec)

/-- 'stanchionlaw09.StoreCrash', WHERE WHAT IT READS IS OF BULK AT MOST 1048576: true; the input reads as it did. -/
def storeCrashUptoRow : OpenClaim := { program := "ytkdhdlfonmgheaagreat", sum := "201bf00b4ffe9c54a78db4e7ffc5390a9b6e741ea4ddae87c7e5f843df57df5d", func := "stanchion/stanchionlaw09.StoreCrash", spec := "storeCrash", inPlace := ["internal/bytealg.Compare", "slices.overlaps[[]byte]"], unfollowed := true, recurses := true, apart := false, narrowed := true }
def StoreCrashUptoSaid : Prop := storeCrashUptoRow.holds Tryz.pinned (OpenSpec.upto storeCrashSpec)

/-- 'stanchionlaw09.StoreFails', WHERE WHAT IT READS IS OF BULK AT MOST 1048576: true; the input reads as it did. -/
def storeFailsUptoRow : OpenClaim := { program := "ytkdhdlfonmgheaagreat", sum := "201bf00b4ffe9c54a78db4e7ffc5390a9b6e741ea4ddae87c7e5f843df57df5d", func := "stanchion/stanchionlaw09.StoreFails", spec := "storeFails", inPlace := ["internal/bytealg.Compare", "slices.overlaps[[]byte]"], unfollowed := true, recurses := true, apart := false, narrowed := true }
def StoreFailsUptoSaid : Prop := storeFailsUptoRow.holds Tryz.pinned (OpenSpec.upto storeFailsSpec)

/-- 'stanchionlaw09.StorePlays', WHERE WHAT IT READS IS OF BULK AT MOST 1048576: true; the input reads as it did. -/
def storePlaysUptoRow : OpenClaim := { program := "ytkdhdlfonmgheaagreat", sum := "201bf00b4ffe9c54a78db4e7ffc5390a9b6e741ea4ddae87c7e5f843df57df5d", func := "stanchion/stanchionlaw09.StorePlays", spec := "storePlays", inPlace := ["internal/bytealg.Compare", "slices.overlaps[[]byte]"], unfollowed := true, recurses := true, apart := false, narrowed := true }
def StorePlaysUptoSaid : Prop := storePlaysUptoRow.holds Tryz.pinned (OpenSpec.upto storePlaysSpec)

/-- 'stanchionlaw09.StoreNone', WHERE WHAT IT READS IS OF BULK AT MOST 1048576: true; the input reads as it did. -/
def storeNoneUptoRow : OpenClaim := { program := "ytkdhdlfonmgheaagreat", sum := "201bf00b4ffe9c54a78db4e7ffc5390a9b6e741ea4ddae87c7e5f843df57df5d", func := "stanchion/stanchionlaw09.StoreNone", spec := "storeNone", inPlace := ["internal/bytealg.Compare", "slices.overlaps[[]byte]"], unfollowed := true, recurses := true, apart := false, narrowed := true }
def StoreNoneUptoSaid : Prop := storeNoneUptoRow.holds Tryz.pinned (OpenSpec.upto storeNoneSpec)

/-- 'stanchionlaw10.FsckPlays', WHERE WHAT IT READS IS OF BULK AT MOST 1048576: true; the input reads as it did. -/
def fsckPlaysUptoRow : OpenClaim := { program := "ytkdhdlfonmgheaagreat", sum := "201bf00b4ffe9c54a78db4e7ffc5390a9b6e741ea4ddae87c7e5f843df57df5d", func := "stanchion/stanchionlaw10.FsckPlays", spec := "fsckPlays", inPlace := ["internal/bytealg.Compare", "slices.overlaps[[]byte]"], unfollowed := true, recurses := true, apart := false, narrowed := true }
def FsckPlaysUptoSaid : Prop := fsckPlaysUptoRow.holds Tryz.pinned (OpenSpec.upto fsckPlaysSpec)

/-- 'stanchionlaw25.AffinLasts', WHERE WHAT IT READS IS OF BULK AT MOST 1048576: true; the input reads as it did. -/
def affinLastsUptoRow : OpenClaim := { program := "ytkdhdlfonmgheaagreat", sum := "201bf00b4ffe9c54a78db4e7ffc5390a9b6e741ea4ddae87c7e5f843df57df5d", func := "stanchion/stanchionlaw25.AffinLasts", spec := "affinLasts", inPlace := ["internal/bytealg.Compare", "slices.overlaps[[]byte]"], unfollowed := true, recurses := true, apart := false, narrowed := true }
def AffinLastsUptoSaid : Prop := affinLastsUptoRow.holds Tryz.pinned (OpenSpec.upto affinLastsSpec)

end Rows
end Go.Proofs.YtkdhdlfonmgheaaGreat
