/-
  No cell of these rows narrows 'for every input' (looked for: loops, veiled, ifaces, maps, wideKeys, modest, calm, conditions, laid).
  DERIVED. THE GIVEN ROWS OF THIS SEAT. 3 by the template 'for every input the law returns true; each argument reads behind the call as it read before'; 0 by the template 'total and deterministic' (their statements: YtldeegpcldhjaaaTotals.lean).
  GIVEN WITH THE SEED: the statements are not yours to turn. If you find one false, say at which input.
  Laid BY PROGRAM, IN A SANDBOX (cutbox-rows.mjs): the forced cells as the released guide's own fill.sh prints them over the translation 6bac26e100261ebe… (all of the seat's roots in one cut). By AI agents, Wed Nov 11 2026. No macro, syntax, notation, axiom, sorry.
-/
import Derived.Test.YtldeegpcldhjaaaChecked
import GoSem.Claim
import GoSem.ClaimJoined
import GoSem.ClaimMapViews
import Derived.JoinedTies
import Derived.KernelRfl
namespace Go.Proofs.Ytldeegpcldhjaaa
/- THE CELL 'sum', in the pinned program and in every row, IS THE sha256 OF THE DUMP (.gsa) THAT YtldeegpcldhjaaaProg.lean LOADS. Nothing in Lean hashes anything: it is a label: what it is worth is what the hold of that sum in a sandbox is worth. -/
noncomputable def Try.pinned : Pinned := { name := "ytldeegpcldhjaaa", sum := "6bac26e100261ebe2385992df3944802d8997b4cead1f48088af12861c1b6252", checked := Try.checked }
namespace Rows
def none {H : Type} : Left H := { results := [], args := [] }

/-- 'stanchionlaw39.ConfThere': WHATEVER THE INPUT: true; the input reads as it did. -/
def confThereSpec : ChangeSpec := { name := "confThere", fn := fun _ => fun
  | [d1, d2] => { results := [.lit (.bool true)], args := [d1, d2] }
  | _ => none }
def confThereRow : OpenClaim := { program := "ytldeegpcldhjaaa", sum := "6bac26e100261ebe2385992df3944802d8997b4cead1f48088af12861c1b6252", func := "stanchion/stanchionlaw39.ConfThere", spec := "confThere", inPlace := ["slices.overlaps[stanchion/api.Backend]"], unfollowed := true, recurses := true, plainKeys := false, apart := false }
def ConfThereSaid : Prop := confThereRow.holds Try.pinned (OpenSpec.ofChange confThereSpec)

/-- ITS FALSE NEIGHBOUR: 'it returns false'. Refute it at one input. -/
def confThereWrong : ChangeSpec := { name := "confThere", fn := fun _ => fun
  | [d1, d2] => { results := [.lit (.bool false)], args := [d1, d2] }
  | _ => none }
def ConfThereWrongFalsely : Prop := confThereRow.holds Try.pinned (OpenSpec.ofChange confThereWrong)

/-- 'stanchionlaw39.ConfNoMore': WHATEVER THE INPUT: true; the input reads as it did. -/
def confNoMoreSpec : ChangeSpec := { name := "confNoMore", fn := fun _ => fun
  | [d1, d2] => { results := [.lit (.bool true)], args := [d1, d2] }
  | _ => none }
def confNoMoreRow : OpenClaim := { program := "ytldeegpcldhjaaa", sum := "6bac26e100261ebe2385992df3944802d8997b4cead1f48088af12861c1b6252", func := "stanchion/stanchionlaw39.ConfNoMore", spec := "confNoMore", inPlace := ["slices.overlaps[stanchion/api.Backend]"], unfollowed := true, recurses := true, plainKeys := false, apart := false }
def ConfNoMoreSaid : Prop := confNoMoreRow.holds Try.pinned (OpenSpec.ofChange confNoMoreSpec)

/-- ITS FALSE NEIGHBOUR: 'it returns false'. Refute it at one input. -/
def confNoMoreWrong : ChangeSpec := { name := "confNoMore", fn := fun _ => fun
  | [d1, d2] => { results := [.lit (.bool false)], args := [d1, d2] }
  | _ => none }
def ConfNoMoreWrongFalsely : Prop := confNoMoreRow.holds Try.pinned (OpenSpec.ofChange confNoMoreWrong)

/-- 'stanchionlaw39.ConfOf': WHATEVER THE INPUT: true; the input reads as it did. -/
def confOfSpec : ChangeSpec := { name := "confOf", fn := fun _ => fun
  | [d] => { results := [.lit (.bool true)], args := [d] }
  | _ => none }
def confOfRow : OpenClaim := { program := "ytldeegpcldhjaaa", sum := "6bac26e100261ebe2385992df3944802d8997b4cead1f48088af12861c1b6252", func := "stanchion/stanchionlaw39.ConfOf", spec := "confOf", inPlace := ["slices.overlaps[stanchion/api.Backend]"], unfollowed := true, recurses := true, plainKeys := false, apart := false }
def ConfOfSaid : Prop := confOfRow.holds Try.pinned (OpenSpec.ofChange confOfSpec)

/-- ITS FALSE NEIGHBOUR: 'it returns false'. Refute it at one input. -/
def confOfWrong : ChangeSpec := { name := "confOf", fn := fun _ => fun
  | [d] => { results := [.lit (.bool false)], args := [d] }
  | _ => none }
def ConfOfWrongFalsely : Prop := confOfRow.holds Try.pinned (OpenSpec.ofChange confOfWrong)

/- THE SECOND FORM. 'bulk': how many values and letters a reading holds, each counted each time it is reached (what is shared counts as often as it is met; a slice's spare places count too). A statement '..UptoSaid' is the law's where the arguments, and the package variables that the reading takes, are together of bulk at most 1048576: NARROWER than '..Said'. Prove '..Said' where nothing that the law and all that it calls make is longer than what came in: it says more and counts as full. Else prove '..UptoSaid'. A law counts once. -/
mutual
def uptoBulk {H : Type} : DataW H → Nat
  | .lit (.string bytes) => bytes.length + 1
  | .lit _ => 1
  | .nil => 1
  | .ptr d => uptoBulk d + 1
  | .slice elems spare => uptoBulkAll elems + uptoBulkAll spare + 1
  | .agg parts => uptoBulkAll parts + 1
  | .iface _ d => uptoBulk d + 1
  | .map entries => uptoBulkEntries entries + 1
  | .held _ => 1
def uptoBulkAll {H : Type} : List (DataW H) → Nat
  | [] => 0
  | d :: r => uptoBulk d + uptoBulkAll r
def uptoBulkEntries {H : Type} : List (Lit × DataW H) → Nat
  | [] => 0
  | x :: r => uptoBulkEntry x + uptoBulkEntries r
def uptoBulkEntry {H : Type} : Lit × DataW H → Nat
  | (.string bytes, d) => bytes.length + uptoBulk d + 1
  | (_, d) => uptoBulk d + 1
 end
def uptoSmall : (H : Type) → List (DataW H) → Bool := fun _ ds => decide (uptoBulkAll ds ≤ 1048576)
def OpenSpec.upto (s : _root_.Go.ChangeSpec) : _root_.Go.OpenSpec := { _root_.Go.OpenSpec.ofChange s with cond := some uptoSmall }

/-- 'stanchionlaw39.ConfThere', WHERE WHAT IT READS IS OF BULK AT MOST 1048576: true; the input reads as it did. -/
def confThereUptoRow : OpenClaim := { program := "ytldeegpcldhjaaa", sum := "6bac26e100261ebe2385992df3944802d8997b4cead1f48088af12861c1b6252", func := "stanchion/stanchionlaw39.ConfThere", spec := "confThere", inPlace := ["slices.overlaps[stanchion/api.Backend]"], unfollowed := true, recurses := true, plainKeys := false, apart := false, narrowed := true }
def ConfThereUptoSaid : Prop := confThereUptoRow.holds Try.pinned (OpenSpec.upto confThereSpec)

/-- 'stanchionlaw39.ConfNoMore', WHERE WHAT IT READS IS OF BULK AT MOST 1048576: true; the input reads as it did. -/
def confNoMoreUptoRow : OpenClaim := { program := "ytldeegpcldhjaaa", sum := "6bac26e100261ebe2385992df3944802d8997b4cead1f48088af12861c1b6252", func := "stanchion/stanchionlaw39.ConfNoMore", spec := "confNoMore", inPlace := ["slices.overlaps[stanchion/api.Backend]"], unfollowed := true, recurses := true, plainKeys := false, apart := false, narrowed := true }
def ConfNoMoreUptoSaid : Prop := confNoMoreUptoRow.holds Try.pinned (OpenSpec.upto confNoMoreSpec)

/-- 'stanchionlaw39.ConfOf', WHERE WHAT IT READS IS OF BULK AT MOST 1048576: true; the input reads as it did. -/
def confOfUptoRow : OpenClaim := { program := "ytldeegpcldhjaaa", sum := "6bac26e100261ebe2385992df3944802d8997b4cead1f48088af12861c1b6252", func := "stanchion/stanchionlaw39.ConfOf", spec := "confOf", inPlace := ["slices.overlaps[stanchion/api.Backend]"], unfollowed := true, recurses := true, plainKeys := false, apart := false, narrowed := true }
def ConfOfUptoSaid : Prop := confOfUptoRow.holds Try.pinned (OpenSpec.upto confOfSpec)

end Rows
end Go.Proofs.Ytldeegpcldhjaaa
