/-
  No cell of these rows narrows 'for every input' (looked for: loops, veiled, ifaces, maps, wideKeys, modest, calm, conditions, laid).
  DERIVED. THE GIVEN ROWS OF THIS SEAT. 8 by the template 'for every input the law returns true; each argument reads behind the call as it read before'; 0 by the template 'total and deterministic' (their statements: YtplieiecebljmaaGreatTotals.lean).
  GIVEN WITH THE SEED: the statements are not yours to turn. If you find one false, say at which input.
  Laid BY PROGRAM, IN A SANDBOX (cutbox-rows.mjs): the forced cells as the released guide's own fill.sh prints them over the translation c0bec88fabf043b4… (all of the seat's roots in one cut). By AI agents, Wed Nov 11 2026. No macro, syntax, notation, axiom, sorry.
-/
import Derived.Test.YtplieiecebljmaaGreatChecked
import GoSem.Claim
import GoSem.ClaimJoined
import GoSem.ClaimMapViews
import Derived.JoinedTies
import Derived.KernelRfl
namespace Go.Proofs.YtplieiecebljmaaGreat
/- THE CELL 'sum', in the pinned program and in every row, IS THE sha256 OF THE DUMP (.gsa) THAT YtplieiecebljmaaGreatProg.lean LOADS. Nothing in Lean hashes anything: it is a label: what it is worth is what the hold of that sum in a sandbox is worth. -/
noncomputable def Tryz.pinned : Pinned := { name := "ytplieiecebljmaagreat", sum := "c0bec88fabf043b4f3627342398e05f50ad2cc43cd5821bd3545fb5d85097d16", checked := Tryz.checked }
namespace Rows
def none {H : Type} : Left H := { results := [], args := [] }

/-- 'stanchionlaw10.FsckLooks': WHATEVER THE INPUT: true; the input reads as it did. -/
def fsckLooksSpec : ChangeSpec := { name := "fsckLooks", fn := fun _ => fun
  | [d1, d2] => { results := [.lit (.bool true)], args := [d1, d2] }
  | _ => none }
def fsckLooksRow : OpenClaim := { program := "ytplieiecebljmaagreat", sum := "c0bec88fabf043b4f3627342398e05f50ad2cc43cd5821bd3545fb5d85097d16", func := "stanchion/stanchionlaw10.FsckLooks", spec := "fsckLooks", inPlace := ["internal/bytealg.Compare"], unfollowed := true, recurses := true, apart := false }
def FsckLooksSaid : Prop := fsckLooksRow.holds Tryz.pinned (OpenSpec.ofChange fsckLooksSpec)

/-- ITS FALSE NEIGHBOUR: 'it returns false'. Refute it at one input. -/
def fsckLooksWrong : ChangeSpec := { name := "fsckLooks", fn := fun _ => fun
  | [d1, d2] => { results := [.lit (.bool false)], args := [d1, d2] }
  | _ => none }
def FsckLooksWrongFalsely : Prop := fsckLooksRow.holds Tryz.pinned (OpenSpec.ofChange fsckLooksWrong)

/-- 'stanchionlaw10.FsckNone': WHATEVER THE INPUT: true; the input reads as it did. -/
def fsckNoneSpec : ChangeSpec := { name := "fsckNone", fn := fun _ => fun
  | [d] => { results := [.lit (.bool true)], args := [d] }
  | _ => none }
def fsckNoneRow : OpenClaim := { program := "ytplieiecebljmaagreat", sum := "c0bec88fabf043b4f3627342398e05f50ad2cc43cd5821bd3545fb5d85097d16", func := "stanchion/stanchionlaw10.FsckNone", spec := "fsckNone", inPlace := ["internal/bytealg.Compare"], unfollowed := true, recurses := true, apart := false }
def FsckNoneSaid : Prop := fsckNoneRow.holds Tryz.pinned (OpenSpec.ofChange fsckNoneSpec)

/-- ITS FALSE NEIGHBOUR: 'it returns false'. Refute it at one input. -/
def fsckNoneWrong : ChangeSpec := { name := "fsckNone", fn := fun _ => fun
  | [d] => { results := [.lit (.bool false)], args := [d] }
  | _ => none }
def FsckNoneWrongFalsely : Prop := fsckNoneRow.holds Tryz.pinned (OpenSpec.ofChange fsckNoneWrong)

/-- 'stanchionlaw08.TreeNone': WHATEVER THE INPUT: true; the input reads as it did. -/
def treeNoneSpec : ChangeSpec := { name := "treeNone", fn := fun _ => fun
  | [d1, d2, d3] => { results := [.lit (.bool true)], args := [d1, d2, d3] }
  | _ => none }
def treeNoneRow : OpenClaim := { program := "ytplieiecebljmaagreat", sum := "c0bec88fabf043b4f3627342398e05f50ad2cc43cd5821bd3545fb5d85097d16", func := "stanchion/stanchionlaw08.TreeNone", spec := "treeNone", inPlace := ["internal/bytealg.Compare", "slices.overlaps[[]byte]"], unfollowed := true, recurses := true, apart := false }
def TreeNoneSaid : Prop := treeNoneRow.holds Tryz.pinned (OpenSpec.ofChange treeNoneSpec)

/-- ITS FALSE NEIGHBOUR: 'it returns false'. Refute it at one input. -/
def treeNoneWrong : ChangeSpec := { name := "treeNone", fn := fun _ => fun
  | [d1, d2, d3] => { results := [.lit (.bool false)], args := [d1, d2, d3] }
  | _ => none }
def TreeNoneWrongFalsely : Prop := treeNoneRow.holds Tryz.pinned (OpenSpec.ofChange treeNoneWrong)

/-- 'stanchionlaw08.TreeElder': WHATEVER THE INPUT: true; the input reads as it did. -/
def treeElderSpec : ChangeSpec := { name := "treeElder", fn := fun _ => fun
  | [d1, d2] => { results := [.lit (.bool true)], args := [d1, d2] }
  | _ => none }
def treeElderRow : OpenClaim := { program := "ytplieiecebljmaagreat", sum := "c0bec88fabf043b4f3627342398e05f50ad2cc43cd5821bd3545fb5d85097d16", func := "stanchion/stanchionlaw08.TreeElder", spec := "treeElder", inPlace := ["internal/bytealg.Compare", "slices.overlaps[[]byte]"], unfollowed := true, recurses := true, apart := false }
def TreeElderSaid : Prop := treeElderRow.holds Tryz.pinned (OpenSpec.ofChange treeElderSpec)

/-- ITS FALSE NEIGHBOUR: 'it returns false'. Refute it at one input. -/
def treeElderWrong : ChangeSpec := { name := "treeElder", fn := fun _ => fun
  | [d1, d2] => { results := [.lit (.bool false)], args := [d1, d2] }
  | _ => none }
def TreeElderWrongFalsely : Prop := treeElderRow.holds Tryz.pinned (OpenSpec.ofChange treeElderWrong)

/-- 'stanchionlaw08.TreeShadow': WHATEVER THE INPUT: true; the input reads as it did. -/
def treeShadowSpec : ChangeSpec := { name := "treeShadow", fn := fun _ => fun
  | [d1, d2] => { results := [.lit (.bool true)], args := [d1, d2] }
  | _ => none }
def treeShadowRow : OpenClaim := { program := "ytplieiecebljmaagreat", sum := "c0bec88fabf043b4f3627342398e05f50ad2cc43cd5821bd3545fb5d85097d16", func := "stanchion/stanchionlaw08.TreeShadow", spec := "treeShadow", inPlace := ["internal/bytealg.Compare", "slices.overlaps[[]byte]"], unfollowed := true, recurses := true, apart := false }
def TreeShadowSaid : Prop := treeShadowRow.holds Tryz.pinned (OpenSpec.ofChange treeShadowSpec)

/-- ITS FALSE NEIGHBOUR: 'it returns false'. Refute it at one input. -/
def treeShadowWrong : ChangeSpec := { name := "treeShadow", fn := fun _ => fun
  | [d1, d2] => { results := [.lit (.bool false)], args := [d1, d2] }
  | _ => none }
def TreeShadowWrongFalsely : Prop := treeShadowRow.holds Tryz.pinned (OpenSpec.ofChange treeShadowWrong)

/-- 'stanchionlaw08.TreeMany': WHATEVER THE INPUT: true; the input reads as it did. -/
def treeManySpec : ChangeSpec := { name := "treeMany", fn := fun _ => fun
  | [d1, d2, d3] => { results := [.lit (.bool true)], args := [d1, d2, d3] }
  | _ => none }
def treeManyRow : OpenClaim := { program := "ytplieiecebljmaagreat", sum := "c0bec88fabf043b4f3627342398e05f50ad2cc43cd5821bd3545fb5d85097d16", func := "stanchion/stanchionlaw08.TreeMany", spec := "treeMany", inPlace := ["internal/bytealg.Compare", "slices.overlaps[[]byte]"], unfollowed := true, recurses := true, apart := false }
def TreeManySaid : Prop := treeManyRow.holds Tryz.pinned (OpenSpec.ofChange treeManySpec)

/-- ITS FALSE NEIGHBOUR: 'it returns false'. Refute it at one input. -/
def treeManyWrong : ChangeSpec := { name := "treeMany", fn := fun _ => fun
  | [d1, d2, d3] => { results := [.lit (.bool false)], args := [d1, d2, d3] }
  | _ => none }
def TreeManyWrongFalsely : Prop := treeManyRow.holds Tryz.pinned (OpenSpec.ofChange treeManyWrong)

/-- 'stanchionlaw08.TreePlays': WHATEVER THE INPUT: true; the input reads as it did. -/
def treePlaysSpec : ChangeSpec := { name := "treePlays", fn := fun _ => fun
  | [d1, d2] => { results := [.lit (.bool true)], args := [d1, d2] }
  | _ => none }
def treePlaysRow : OpenClaim := { program := "ytplieiecebljmaagreat", sum := "c0bec88fabf043b4f3627342398e05f50ad2cc43cd5821bd3545fb5d85097d16", func := "stanchion/stanchionlaw08.TreePlays", spec := "treePlays", inPlace := ["internal/bytealg.Compare", "slices.overlaps[[]byte]"], unfollowed := true, recurses := true, apart := false }
def TreePlaysSaid : Prop := treePlaysRow.holds Tryz.pinned (OpenSpec.ofChange treePlaysSpec)

/-- ITS FALSE NEIGHBOUR: 'it returns false'. Refute it at one input. -/
def treePlaysWrong : ChangeSpec := { name := "treePlays", fn := fun _ => fun
  | [d1, d2] => { results := [.lit (.bool false)], args := [d1, d2] }
  | _ => none }
def TreePlaysWrongFalsely : Prop := treePlaysRow.holds Tryz.pinned (OpenSpec.ofChange treePlaysWrong)

/-- 'stanchionlaw08.TreeFails': WHATEVER THE INPUT: true; the input reads as it did. -/
def treeFailsSpec : ChangeSpec := { name := "treeFails", fn := fun _ => fun
  | [d1, d2, d3] => { results := [.lit (.bool true)], args := [d1, d2, d3] }
  | _ => none }
def treeFailsRow : OpenClaim := { program := "ytplieiecebljmaagreat", sum := "c0bec88fabf043b4f3627342398e05f50ad2cc43cd5821bd3545fb5d85097d16", func := "stanchion/stanchionlaw08.TreeFails", spec := "treeFails", inPlace := ["internal/bytealg.Compare", "slices.overlaps[[]byte]"], unfollowed := true, recurses := true, apart := false }
def TreeFailsSaid : Prop := treeFailsRow.holds Tryz.pinned (OpenSpec.ofChange treeFailsSpec)

/-- ITS FALSE NEIGHBOUR: 'it returns false'. Refute it at one input. -/
def treeFailsWrong : ChangeSpec := { name := "treeFails", fn := fun _ => fun
  | [d1, d2, d3] => { results := [.lit (.bool false)], args := [d1, d2, d3] }
  | _ => none }
def TreeFailsWrongFalsely : Prop := treeFailsRow.holds Tryz.pinned (OpenSpec.ofChange treeFailsWrong)

/- THE SECOND FORM. 'bulk': how many values and letters a reading holds, each counted each time it is reached (what is shared counts as often as it is met; a slice's spare places count too). A statement '..UptoSaid' is the law's where the arguments, and the package variables that the reading takes, are together of bulk at most 1048576: NARROWER than '..Said'. Prove '..Said' where nothing that the law and all that it calls make is longer than what came in: it says more and counts as full. Else prove '..UptoSaid'. A law counts once. -/
mutual
def uptoBulk {H : Type} : DataW H → Nat
  | .lit (.string bytes) => bytes.length + 1
  | .lit _ => 1
  | .nil => 1
  | .ptr d => uptoBulk d + 1
  | .slice elems spare => uptoBulkAll elems + uptoBulkAll spare + 1
  | .agg parts => uptoBulkAll parts + 1
  | .iface _ d => uptoBulk d + 1
  | .map entries => uptoBulkEntries entries + 1
  | .held _ => 1
def uptoBulkAll {H : Type} : List (DataW H) → Nat
  | [] => 0
  | d :: r => uptoBulk d + uptoBulkAll r
def uptoBulkEntries {H : Type} : List (Lit × DataW H) → Nat
  | [] => 0
  | x :: r => uptoBulkEntry x + uptoBulkEntries r
def uptoBulkEntry {H : Type} : Lit × DataW H → Nat
  | (.string bytes, d) => bytes.length + uptoBulk d + 1
  | (_, d) => uptoBulk d + 1
 end
def uptoSmall : (H : Type) → List (DataW H) → Bool := fun _ ds => decide (uptoBulkAll ds ≤ 1048576)
def OpenSpec.upto (s : _root_.Go.ChangeSpec) : _root_.Go.OpenSpec := { _root_.Go.OpenSpec.ofChange s with cond := some uptoSmall }

/-- 'stanchionlaw10.FsckLooks', WHERE WHAT IT READS IS OF BULK AT MOST 1048576: true; the input reads as it did. -/
def fsckLooksUptoRow : OpenClaim := { program := "ytplieiecebljmaagreat", sum := "c0bec88fabf043b4f3627342398e05f50ad2cc43cd5821bd3545fb5d85097d16", func := "stanchion/stanchionlaw10.FsckLooks", spec := "fsckLooks", inPlace := ["internal/bytealg.Compare"], unfollowed := true, recurses := true, apart := false, narrowed := true }
def FsckLooksUptoSaid : Prop := fsckLooksUptoRow.holds Tryz.pinned (OpenSpec.upto fsckLooksSpec)

/-- 'stanchionlaw10.FsckNone', WHERE WHAT IT READS IS OF BULK AT MOST 1048576: true; the input reads as it did. -/
def fsckNoneUptoRow : OpenClaim := { program := "ytplieiecebljmaagreat", sum := "c0bec88fabf043b4f3627342398e05f50ad2cc43cd5821bd3545fb5d85097d16", func := "stanchion/stanchionlaw10.FsckNone", spec := "fsckNone", inPlace := ["internal/bytealg.Compare"], unfollowed := true, recurses := true, apart := false, narrowed := true }
def FsckNoneUptoSaid : Prop := fsckNoneUptoRow.holds Tryz.pinned (OpenSpec.upto fsckNoneSpec)

/-- 'stanchionlaw08.TreeNone', WHERE WHAT IT READS IS OF BULK AT MOST 1048576: true; the input reads as it did. -/
def treeNoneUptoRow : OpenClaim := { program := "ytplieiecebljmaagreat", sum := "c0bec88fabf043b4f3627342398e05f50ad2cc43cd5821bd3545fb5d85097d16", func := "stanchion/stanchionlaw08.TreeNone", spec := "treeNone", inPlace := ["internal/bytealg.Compare", "slices.overlaps[[]byte]"], unfollowed := true, recurses := true, apart := false, narrowed := true }
def TreeNoneUptoSaid : Prop := treeNoneUptoRow.holds Tryz.pinned (OpenSpec.upto treeNoneSpec)

/-- 'stanchionlaw08.TreeElder', WHERE WHAT IT READS IS OF BULK AT MOST 1048576: true; the input reads as it did. -/
def treeElderUptoRow : OpenClaim := { program := "ytplieiecebljmaagreat", sum := "c0bec88fabf043b4f3627342398e05f50ad2cc43cd5821bd3545fb5d85097d16", func := "stanchion/stanchionlaw08.TreeElder", spec := "treeElder", inPlace := ["internal/bytealg.Compare", "slices.overlaps[[]byte]"], unfollowed := true, recurses := true, apart := false, narrowed := true }
def TreeElderUptoSaid : Prop := treeElderUptoRow.holds Tryz.pinned (OpenSpec.upto treeElderSpec)

/-- 'stanchionlaw08.TreeShadow', WHERE WHAT IT READS IS OF BULK AT MOST 1048576: true; the input reads as it did. -/
def treeShadowUptoRow : OpenClaim := { program := "ytplieiecebljmaagreat", sum := "c0bec88fabf043b4f3627342398e05f50ad2cc43cd5821bd3545fb5d85097d16", func := "stanchion/stanchionlaw08.TreeShadow", spec := "treeShadow", inPlace := ["internal/bytealg.Compare", "slices.overlaps[[]byte]"], unfollowed := true, recurses := true, apart := false, narrowed := true }
def TreeShadowUptoSaid : Prop := treeShadowUptoRow.holds Tryz.pinned (OpenSpec.upto treeShadowSpec)

/-- 'stanchionlaw08.TreeMany', WHERE WHAT IT READS IS OF BULK AT MOST 1048576: true; the input reads as it did. -/
def treeManyUptoRow : OpenClaim := { program := "ytplieiecebljmaagreat", sum := "c0bec88fabf043b4f3627342398e05f50ad2cc43cd5821bd3545fb5d85097d16", func := "stanchion/stanchionlaw08.TreeMany", spec := "treeMany", inPlace := ["internal/bytealg.Compare", "slices.overlaps[[]byte]"], unfollowed := true, recurses := true, apart := false, narrowed := true }
def TreeManyUptoSaid : Prop := treeManyUptoRow.holds Tryz.pinned (OpenSpec.upto treeManySpec)

/-- 'stanchionlaw08.TreePlays', WHERE WHAT IT READS IS OF BULK AT MOST 1048576: true; the input reads as it did. -/
def treePlaysUptoRow : OpenClaim := { program := "ytplieiecebljmaagreat", sum := "c0bec88fabf043b4f3627342398e05f50ad2cc43cd5821bd3545fb5d85097d16", func := "stanchion/stanchionlaw08.TreePlays", spec := "treePlays", inPlace := ["internal/bytealg.Compare", "slices.overlaps[[]byte]"], unfollowed := true, recurses := true, apart := false, narrowed := true }
def TreePlaysUptoSaid : Prop := treePlaysUptoRow.holds Tryz.pinned (OpenSpec.upto treePlaysSpec)

/-- 'stanchionlaw08.TreeFails', WHERE WHAT IT READS IS OF BULK AT MOST 1048576: true; the input reads as it did. -/
def treeFailsUptoRow : OpenClaim := { program := "ytplieiecebljmaagreat", sum := "c0bec88fabf043b4f3627342398e05f50ad2cc43cd5821bd3545fb5d85097d16", func := "stanchion/stanchionlaw08.TreeFails", spec := "treeFails", inPlace := ["internal/bytealg.Compare", "slices.overlaps[[]byte]"], unfollowed := true, recurses := true, apart := false, narrowed := true }
def TreeFailsUptoSaid : Prop := treeFailsUptoRow.holds Tryz.pinned (OpenSpec.upto treeFailsSpec)

end Rows
end Go.Proofs.YtplieiecebljmaaGreat
