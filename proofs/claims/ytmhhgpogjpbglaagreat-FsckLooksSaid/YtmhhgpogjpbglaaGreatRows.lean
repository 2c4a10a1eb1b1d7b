/-
  No cell of these rows narrows 'for every input' (looked for: loops, veiled, ifaces, maps, wideKeys, modest, calm, conditions, laid).
  DERIVED. THE GIVEN ROWS OF THIS SEAT. 9 by the template 'for every input the law returns true; each argument reads behind the call as it read before'; 0 by the template 'total and deterministic' (their statements: YtmhhgpogjpbglaaGreatTotals.lean).
  GIVEN WITH THE SEED: the statements are not yours to turn. If you find one false, say at which input.
  Laid BY PROGRAM, IN A SANDBOX (cutbox-rows.mjs): the forced cells as the released guide's own fill.sh prints them over the translation b82989a676ed2601… (all of the seat's roots in one cut). By AI agents, Wed Nov 11 2026. No macro, syntax, notation, axiom, sorry.
-/
import Derived.Test.YtmhhgpogjpbglaaGreatChecked
import GoSem.Claim
import GoSem.ClaimJoined
import GoSem.ClaimMapViews
import Derived.JoinedTies
import Derived.KernelRfl
namespace Go.Proofs.YtmhhgpogjpbglaaGreat
/- THE CELL 'sum', in the pinned program and in every row, IS THE sha256 OF THE DUMP (.gsa) THAT YtmhhgpogjpbglaaGreatProg.lean LOADS. Nothing in Lean hashes anything: it is a label: what it is worth is what the hold of that sum in a sandbox is worth. -/
noncomputable def Tryz.pinned : Pinned := { name := "ytmhhgpogjpbglaagreat", sum := "b82989a676ed2601321186102b0e000a357275bca2735409be25cc6ab9780abb", checked := Tryz.checked }
namespace Rows
def none {H : Type} : Left H := { results := [], args := [] }

/-- 'stanchionlaw10.FsckLooks': WHATEVER THE INPUT: true; the input reads as it did. -/
def fsckLooksSpec : ChangeSpec := { name := "fsckLooks", fn := fun _ => fun
  | [d1, d2] => { results := [.lit (.bool true)], args := [d1, d2] }
  | _ => none }
def fsckLooksRow : OpenClaim := { program := "ytmhhgpogjpbglaagreat", sum := "b82989a676ed2601321186102b0e000a357275bca2735409be25cc6ab9780abb", func := "stanchion/stanchionlaw10.FsckLooks", spec := "fsckLooks", inPlace := ["internal/bytealg.Compare"], unfollowed := true, recurses := true, apart := false }
def FsckLooksSaid : Prop := fsckLooksRow.holds Tryz.pinned (OpenSpec.ofChange fsckLooksSpec)

/-- ITS FALSE NEIGHBOUR: 'it returns false'. Refute it at one input. -/
def fsckLooksWrong : ChangeSpec := { name := "fsckLooks", fn := fun _ => fun
  | [d1, d2] => { results := [.lit (.bool false)], args := [d1, d2] }
  | _ => none }
def FsckLooksWrongFalsely : Prop := fsckLooksRow.holds Tryz.pinned (OpenSpec.ofChange fsckLooksWrong)

/-- 'stanchionlaw10.FsckNone': WHATEVER THE INPUT: true; the input reads as it did. -/
def fsckNoneSpec : ChangeSpec := { name := "fsckNone", fn := fun _ => fun
  | [d] => { results := [.lit (.bool true)], args := [d] }
  | _ => none }
def fsckNoneRow : OpenClaim := { program := "ytmhhgpogjpbglaagreat", sum := "b82989a676ed2601321186102b0e000a357275bca2735409be25cc6ab9780abb", func := "stanchion/stanchionlaw10.FsckNone", spec := "fsckNone", inPlace := ["internal/bytealg.Compare"], unfollowed := true, recurses := true, apart := false }
def FsckNoneSaid : Prop := fsckNoneRow.holds Tryz.pinned (OpenSpec.ofChange fsckNoneSpec)

/-- ITS FALSE NEIGHBOUR: 'it returns false'. Refute it at one input. -/
def fsckNoneWrong : ChangeSpec := { name := "fsckNone", fn := fun _ => fun
  | [d] => { results := [.lit (.bool false)], args := [d] }
  | _ => none }
def FsckNoneWrongFalsely : Prop := fsckNoneRow.holds Tryz.pinned (OpenSpec.ofChange fsckNoneWrong)

/-- 'stanchionlaw09.StoreRoom': WHATEVER THE INPUT: true; the input reads as it did. -/
def storeRoomSpec : ChangeSpec := { name := "storeRoom", fn := fun _ => fun
  | [d1, d2, d3] => { results := [.lit (.bool true)], args := [d1, d2, d3] }
  | _ => none }
def storeRoomRow : OpenClaim := { program := "ytmhhgpogjpbglaagreat", sum := "b82989a676ed2601321186102b0e000a357275bca2735409be25cc6ab9780abb", func := "stanchion/stanchionlaw09.StoreRoom", spec := "storeRoom", inPlace := ["internal/bytealg.Compare", "slices.overlaps[[]byte]"], unfollowed := true, recurses := true, apart := false }
def StoreRoomSaid : Prop := storeRoomRow.holds Tryz.pinned (OpenSpec.ofChange storeRoomSpec)

/-- ITS FALSE NEIGHBOUR: 'it returns false'. Refute it at one input. -/
def storeRoomWrong : ChangeSpec := { name := "storeRoom", fn := fun _ => fun
  | [d1, d2, d3] => { results := [.lit (.bool false)], args := [d1, d2, d3] }
  | _ => none }
def StoreRoomWrongFalsely : Prop := storeRoomRow.holds Tryz.pinned (OpenSpec.ofChange storeRoomWrong)

/-- 'stanchionlaw09.StoreSpoilt': WHATEVER THE INPUT: true; the input reads as it did. -/
def storeSpoiltSpec : ChangeSpec := { name := "storeSpoilt", fn := fun _ => fun
  | [d1, d2] => { results := [.lit (.bool true)], args := [d1, d2] }
  | _ => none }
def storeSpoiltRow : OpenClaim := { program := "ytmhhgpogjpbglaagreat", sum := "b82989a676ed2601321186102b0e000a357275bca2735409be25cc6ab9780abb", func := "stanchion/stanchionlaw09.StoreSpoilt", spec := "storeSpoilt", inPlace := ["internal/bytealg.Compare", "slices.overlaps[[]byte]"], unfollowed := true, recurses := true, apart := false }
def StoreSpoiltSaid : Prop := storeSpoiltRow.holds Tryz.pinned (OpenSpec.ofChange storeSpoiltSpec)

/-- ITS FALSE NEIGHBOUR: 'it returns false'. Refute it at one input. -/
def storeSpoiltWrong : ChangeSpec := { name := "storeSpoilt", fn := fun _ => fun
  | [d1, d2] => { results := [.lit (.bool false)], args := [d1, d2] }
  | _ => none }
def StoreSpoiltWrongFalsely : Prop := storeSpoiltRow.holds Tryz.pinned (OpenSpec.ofChange storeSpoiltWrong)

/-- 'stanchionlaw09.StoreCrash': WHATEVER THE INPUT: true; the input reads as it did. -/
def storeCrashSpec : ChangeSpec := { name := "storeCrash", fn := fun _ => fun
  | [d1, d2, d3] => { results := [.lit (.bool true)], args := [d1, d2, d3] }
  | _ => none }
def storeCrashRow : OpenClaim := { program := "ytmhhgpogjpbglaagreat", sum := "b82989a676ed2601321186102b0e000a357275bca2735409be25cc6ab9780abb", func := "stanchion/stanchionlaw09.StoreCrash", spec := "storeCrash", inPlace := ["internal/bytealg.Compare", "slices.overlaps[[]byte]"], unfollowed := true, recurses := true, apart := false }
def StoreCrashSaid : Prop := storeCrashRow.holds Tryz.pinned (OpenSpec.ofChange storeCrashSpec)

/-- ITS FALSE NEIGHBOUR: 'it returns false'. Refute it at one input. -/
def storeCrashWrong : ChangeSpec := { name := "storeCrash", fn := fun _ => fun
  | [d1, d2, d3] => { results := [.lit (.bool false)], args := [d1, d2, d3] }
  | _ => none }
def StoreCrashWrongFalsely : Prop := storeCrashRow.holds Tryz.pinned (OpenSpec.ofChange storeCrashWrong)

/-- 'stanchionlaw09.StoreFails': WHATEVER THE INPUT: true; the input reads as it did. -/
def storeFailsSpec : ChangeSpec := { name := "storeFails", fn := fun _ => fun
  | [d1, d2, d3] => { results := [.lit (.bool true)], args := [d1, d2, d3] }
  | _ => none }
def storeFailsRow : OpenClaim := { program := "ytmhhgpogjpbglaagreat", sum := "b82989a676ed2601321186102b0e000a357275bca2735409be25cc6ab9780abb", func := "stanchion/stanchionlaw09.StoreFails", spec := "storeFails", inPlace := ["internal/bytealg.Compare", "slices.overlaps[[]byte]"], unfollowed := true, recurses := true, apart := false }
def StoreFailsSaid : Prop := storeFailsRow.holds Tryz.pinned (OpenSpec.ofChange storeFailsSpec)

/-- ITS FALSE NEIGHBOUR: 'it returns false'. Refute it at one input. -/
def storeFailsWrong : ChangeSpec := { name := "storeFails", fn := fun _ => fun
  | [d1, d2, d3] => { results := [.lit (.bool false)], args := [d1, d2, d3] }
  | _ => none }
def StoreFailsWrongFalsely : Prop := storeFailsRow.holds Tryz.pinned (OpenSpec.ofChange storeFailsWrong)

/-- 'stanchionlaw09.StorePlays': WHATEVER THE INPUT: true; the input reads as it did. -/
def storePlaysSpec : ChangeSpec := { name := "storePlays", fn := fun _ => fun
  | [d1, d2, d3] => { results := [.lit (.bool true)], args := [d1, d2, d3] }
  | _ => none }
def storePlaysRow : OpenClaim := { program := "ytmhhgpogjpbglaagreat", sum := "b82989a676ed2601321186102b0e000a357275bca2735409be25cc6ab9780abb", func := "stanchion/stanchionlaw09.StorePlays", spec := "storePlays", inPlace := ["internal/bytealg.Compare", "slices.overlaps[[]byte]"], unfollowed := true, recurses := true, apart := false }
def StorePlaysSaid : Prop := storePlaysRow.holds Tryz.pinned (OpenSpec.ofChange storePlaysSpec)

/-- ITS FALSE NEIGHBOUR: 'it returns false'. Refute it at one input. -/
def storePlaysWrong : ChangeSpec := { name := "storePlays", fn := fun _ => fun
  | [d1, d2, d3] => { results := [.lit (.bool false)], args := [d1, d2, d3] }
  | _ => none }
def StorePlaysWrongFalsely : Prop := storePlaysRow.holds Tryz.pinned (OpenSpec.ofChange storePlaysWrong)

/-- 'stanchionlaw09.StoreNone': WHATEVER THE INPUT: true; the input reads as it did. -/
def storeNoneSpec : ChangeSpec := { name := "storeNone", fn := fun _ => fun
  | [d1, d2] => { results := [.lit (.bool true)], args := [d1, d2] }
  | _ => none }
def storeNoneRow : OpenClaim := { program := "ytmhhgpogjpbglaagreat", sum := "b82989a676ed2601321186102b0e000a357275bca2735409be25cc6ab9780abb", func := "stanchion/stanchionlaw09.StoreNone", spec := "storeNone", inPlace := ["internal/bytealg.Compare", "slices.overlaps[[]byte]"], unfollowed := true, recurses := true, apart := false }
def StoreNoneSaid : Prop := storeNoneRow.holds Tryz.pinned (OpenSpec.ofChange storeNoneSpec)

/-- ITS FALSE NEIGHBOUR: 'it returns false'. Refute it at one input. -/
def storeNoneWrong : ChangeSpec := { name := "storeNone", fn := fun _ => fun
  | [d1, d2] => { results := [.lit (.bool false)], args := [d1, d2] }
  | _ => none }
def StoreNoneWrongFalsely : Prop := storeNoneRow.holds Tryz.pinned (OpenSpec.ofChange storeNoneWrong)

/-- 'stanchionlaw10.FsckPlays': WHATEVER THE INPUT: true; the input reads as it did. -/
def fsckPlaysSpec : ChangeSpec := { name := "fsckPlays", fn := fun _ => fun
  | [d1, d2] => { results := [.lit (.bool true)], args := [d1, d2] }
  | _ => none }
def fsckPlaysRow : OpenClaim := { program := "ytmhhgpogjpbglaagreat", sum := "b82989a676ed2601321186102b0e000a357275bca2735409be25cc6ab9780abb", func := "stanchion/stanchionlaw10.FsckPlays", spec := "fsckPlays", inPlace := ["internal/bytealg.Compare", "slices.overlaps[[]byte]"], unfollowed := true, recurses := true, apart := false }
def FsckPlaysSaid : Prop := fsckPlaysRow.holds Tryz.pinned (OpenSpec.ofChange fsckPlaysSpec)

/-- ITS FALSE NEIGHBOUR: 'it returns false'. Refute it at one input. -/
def fsckPlaysWrong : ChangeSpec := { name := "fsckPlays", fn := fun _ => fun
  | [d1, d2] => { results := [.lit (.bool false)], args := [d1, d2] }
  | _ => none }
def FsckPlaysWrongFalsely : Prop := fsckPlaysRow.holds Tryz.pinned (OpenSpec.ofChange fsckPlaysWrong)

/- THE SECOND FORM. 'bulk': how many values and letters a reading holds, each counted each time it is reached (what is shared counts as often as it is met; a slice's spare places count too). A statement '..UptoSaid' is the law's where the arguments, and the package variables that the reading takes, are together of bulk at most 1048576: NARROWER than '..Said'. Prove '..Said' where nothing that the law and all that it calls make is longer than what came in: it says more and counts as full. Else prove '..UptoSaid'. A law counts once. -/
mutual
def uptoBulk {H : Type} : DataW H → Nat
  | .lit (.string bytes) => bytes.length + 1
  | .lit _ => 1
  | .nil => 1
  | .ptr d => uptoBulk d + 1
  | .slice elems spare => uptoBulkAll elems + uptoBulkAll spare + 1
  | .agg parts => uptoBulkAll parts + 1
  | .iface _ d => uptoBulk d + 1
  | .map entries => uptoBulkEntries entries + 1
  | .held _ => 1
def uptoBulkAll {H : Type} : List (DataW H) → Nat
  | [] => 0
  | d :: r => uptoBulk d + uptoBulkAll r
def uptoBulkEntries {H : Type} : List (Lit × DataW H) → Nat
  | [] => 0
  | x :: r => uptoBulkEntry x + uptoBulkEntries r
def uptoBulkEntry {H : Type} : Lit × DataW H → Nat
  | (.string bytes, d) => bytes.length + uptoBulk d + 1
  | (_, d) => uptoBulk d + 1
 end
def uptoSmall : (H : Type) → List (DataW H) → Bool := fun _ ds => decide (uptoBulkAll ds ≤ 1048576)
def OpenSpec.upto (s : _root_.Go.ChangeSpec) : _root_.Go.OpenSpec := { _root_.Go.OpenSpec.ofChange s with cond := some uptoSmall }

/-- 'stanchionlaw10.FsckLooks', WHERE WHAT IT READS IS OF BULK AT MOST 1048576: true; the input reads as it did. -/
def fsckLooksUptoRow : OpenClaim := { program := "ytmhhgpogjpbglaagreat", sum := "b82989a676ed2601321186102b0e000a357275bca2735409be25cc6ab9780abb", func := "stanchion/stanchionlaw10.FsckLooks", spec := "fsckLooks", inPlace := ["internal/bytealg.Compare"], unfollowed := true, recurses := true, apart := false, narrowed := true }
def FsckLooksUptoSaid : Prop := fsckLooksUptoRow.holds Tryz.pinned (OpenSpec.upto fsckLooksSpec)

/-- 'stanchionlaw10.FsckNone', WHERE WHAT IT READS IS OF BULK AT MOST 1048576: true; the input reads as it did. -/
def fsckNoneUptoRow : OpenClaim := { program := "ytmhhgpogjpbglaagreat", sum := "b82989a676ed2601321186102b0e000a357275bca2735409be25cc6ab9780abb", func := "stanchion/stanchionlaw10.FsckNone", spec := "fsckNone", inPlace := ["internal/bytealg.Compare"], unfollowed := true, recurses := true, apart := false, narrowed := true }
def FsckNoneUptoSaid : Prop := fsckNoneUptoRow.holds Tryz.pinned (OpenSpec.upto fsckNoneSpec)

/-- 'stanchionlaw09.StoreRoom', WHERE WHAT IT READS IS OF BULK AT MOST 1048576: true; the input reads as it did. -/
def storeRoomUptoRow : OpenClaim := { program := "ytmhhgpogjpbglaagreat", sum := "b82989a676ed2601321186102b0e000a357275bca2735409be25cc6ab9780abb", func := "stanchion/stanchionlaw09.StoreRoom", spec := "storeRoom", inPlace := ["internal/bytealg.Compare", "slices.overlaps[[]byte]"], unfollowed := true, recurses := true, apart := false, narrowed := true }
def StoreRoomUptoSaid : Prop := storeRoomUptoRow.holds Tryz.pinned (OpenSpec.upto storeRoomSpec)

/-- 'stanchionlaw09.StoreSpoilt', WHERE WHAT IT READS IS OF BULK AT MOST 1048576: true; the input reads as it did. -/
def storeSpoiltUptoRow : OpenClaim := { program := "ytmhhgpogjpbglaagreat", sum := "b82989a676ed2601321186102b0e000a357275bca2735409be25cc6ab9780abb", func := "stanchion/stanchionlaw09.StoreSpoilt", spec := "storeSpoilt", inPlace := ["internal/bytealg.Compare", "slices.overlaps[[]byte]"], unfollowed := true, recurses := true, apart := false, narrowed := true }
def StoreSpoiltUptoSaid : Prop := storeSpoiltUptoRow.holds Tryz.pinned (OpenSpec.upto storeSpoiltSpec)

/-- 'stanchionlaw09.StoreCrash', WHERE WHAT IT READS IS OF BULK AT MOST 1048576: true; the input reads as it did. -/
def storeCrashUptoRow : OpenClaim := { program := "ytmhhgpogjpbglaagreat", sum := "b82989a676ed2601321186102b0e000a357275bca2735409be25cc6ab9780abb", func := "stanchion/stanchionlaw09.StoreCrash", spec := "storeCrash", inPlace := ["internal/bytealg.Compare", "slices.overlaps[[]byte]"], unfollowed := true, recurses := true, apart := false, narrowed := true }
def StoreCrashUptoSaid : Prop := storeCrashUptoRow.holds Tryz.pinned (OpenSpec.upto storeCrashSpec)

/-- 'stanchionlaw09.StoreFails', WHERE WHAT IT READS IS OF BULK AT MOST 1048576: true; the input reads as it did. -/
def storeFailsUptoRow : OpenClaim := { program := "ytmhhgpogjpbglaagreat", sum := "b82989a676ed2601321186102b0e000a357275bca2735409be25cc6ab9780abb", func := "stanchion/stanchionlaw09.StoreFails", spec := "storeFails", inPlace := ["internal/bytealg.Compare", "slices.overlaps[[]byte]"], unfollowed := true, recurses := true, apart := false, narrowed := true }
def StoreFailsUptoSaid : Prop := storeFailsUptoRow.holds Tryz.pinned (OpenSpec.upto storeFailsSpec)

/-- 'stanchionlaw09.StorePlays', WHERE WHAT IT READS IS OF BULK AT MOST 1048576: true; the input reads as it did. -/
def storePlaysUptoRow : OpenClaim := { program := "ytmhhgpogjpbglaagreat", sum := "b82989a676ed2601321186102b0e000a357275bca2735409be25cc6ab9780abb", func := "stanchion/stanchionlaw09.StorePlays", spec := "storePlays", inPlace := ["internal/bytealg.Compare", "slices.overlaps[[]byte]"], unfollowed := true, recurses := true, apart := false, narrowed := true }
def StorePlaysUptoSaid : Prop := storePlaysUptoRow.holds Tryz.pinned (OpenSpec.upto storePlaysSpec)

/-- 'stanchionlaw09.StoreNone', WHERE WHAT IT READS IS OF BULK AT MOST 1048576: true; the input reads as it did. -/
def storeNoneUptoRow : OpenClaim := { program := "ytmhhgpogjpbglaagreat", sum := "b82989a676ed2601321186102b0e000a357275bca2735409be25cc6ab9780abb", func := "stanchion/stanchionlaw09.StoreNone", spec := "storeNone", inPlace := ["internal/bytealg.Compare", "slices.overlaps[[]byte]"], unfollowed := true, recurses := true, apart := false, narrowed := true }
def StoreNoneUptoSaid : Prop := storeNoneUptoRow.holds Tryz.pinned (OpenSpec.upto storeNoneSpec)

/-- 'stanchionlaw10.FsckPlays', WHERE WHAT IT READS IS OF BULK AT MOST 1048576: true; the input reads as it did. -/
def fsckPlaysUptoRow : OpenClaim := { program := "ytmhhgpogjpbglaagreat", sum := "b82989a676ed2601321186102b0e000a357275bca2735409be25cc6ab9780abb", func := "stanchion/stanchionlaw10.FsckPlays", spec := "fsckPlays", inPlace := ["internal/bytealg.Compare", "slices.overlaps[[]byte]"], unfollowed := true, recurses := true, apart := false, narrowed := true }
def FsckPlaysUptoSaid : Prop := fsckPlaysUptoRow.holds Tryz.pinned (OpenSpec.upto fsckPlaysSpec)

end Rows
end Go.Proofs.YtmhhgpogjpbglaaGreat
