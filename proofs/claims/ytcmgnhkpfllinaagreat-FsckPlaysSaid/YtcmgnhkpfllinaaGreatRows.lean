/-
  No cell of these rows narrows 'for every input' (looked for: loops, veiled, ifaces, maps, wideKeys, modest, calm, conditions, laid).
  DERIVED. THE GIVEN ROWS OF THIS SEAT. 6 by the template 'for every input the law returns true; each argument reads behind the call as it read before'; 0 by the template 'total and deterministic' (their statements: YtcmgnhkpfllinaaGreatTotals.lean).
  GIVEN WITH THE SEED: the statements are not yours to turn. If you find one false, say at which input.
  Laid BY PROGRAM, IN A SANDBOX (cutbox-rows.mjs): the forced cells as the released guide's own fill.sh prints them over the translation 3c2a24e1928c1fe8… (all of the seat's roots in one cut). By AI agents, Wed Nov 11 2026. No macro, syntax, notation, axiom, sorry.
-/
import Derived.Test.YtcmgnhkpfllinaaGreatChecked
import GoSem.Claim
import GoSem.ClaimJoined
import GoSem.ClaimMapViews
import Derived.JoinedTies
import Derived.KernelRfl
namespace Go.Proofs.YtcmgnhkpfllinaaGreat
/- THE CELL 'sum', in the pinned program and in every row, IS THE sha256 OF THE DUMP (.gsa) THAT YtcmgnhkpfllinaaGreatProg.lean LOADS. Nothing in Lean hashes anything: it is a label: what it is worth is what the hold of that sum in a sandbox is worth. -/
noncomputable def Tryz.pinned : Pinned := { name := "ytcmgnhkpfllinaagreat", sum := "3c2a24e1928c1fe8a47d524ae52d86187089111b3a6ae562f74fee9c287901e1", checked := Tryz.checked }
namespace Rows
def none {H : Type} : Left H := { results := [], args := [] }

/-- 'stanchionlaw26.SweepFew': WHATEVER THE INPUT: true; the input reads as it did. -/
def sweepFewSpec : ChangeSpec := { name := "sweepFew", fn := fun _ => fun
  | [d1, d2, d3] => { results := [.lit (.bool true)], args := [d1, d2, d3] }
  | _ => none }
def sweepFewRow : OpenClaim := { program := "ytcmgnhkpfllinaagreat", sum := "3c2a24e1928c1fe8a47d524ae52d86187089111b3a6ae562f74fee9c287901e1", func := "stanchion/stanchionlaw26.SweepFew", spec := "sweepFew", inPlace := ["internal/bytealg.Compare", "slices.overlaps[[]byte]"], unfollowed := true, recurses := true, apart := false }
def SweepFewSaid : Prop := sweepFewRow.holds Tryz.pinned (OpenSpec.ofChange sweepFewSpec)

/-- ITS FALSE NEIGHBOUR: 'it returns false'. Refute it at one input. -/
def sweepFewWrong : ChangeSpec := { name := "sweepFew", fn := fun _ => fun
  | [d1, d2, d3] => { results := [.lit (.bool false)], args := [d1, d2, d3] }
  | _ => none }
def SweepFewWrongFalsely : Prop := sweepFewRow.holds Tryz.pinned (OpenSpec.ofChange sweepFewWrong)

/-- 'stanchionlaw26.SweepSteps': WHATEVER THE INPUT: true; the input reads as it did. -/
def sweepStepsSpec : ChangeSpec := { name := "sweepSteps", fn := fun _ => fun
  | [d1, d2, d3] => { results := [.lit (.bool true)], args := [d1, d2, d3] }
  | _ => none }
def sweepStepsRow : OpenClaim := { program := "ytcmgnhkpfllinaagreat", sum := "3c2a24e1928c1fe8a47d524ae52d86187089111b3a6ae562f74fee9c287901e1", func := "stanchion/stanchionlaw26.SweepSteps", spec := "sweepSteps", inPlace := ["internal/bytealg.Compare", "slices.overlaps[[]byte]"], unfollowed := true, recurses := true, apart := false }
def SweepStepsSaid : Prop := sweepStepsRow.holds Tryz.pinned (OpenSpec.ofChange sweepStepsSpec)

/-- ITS FALSE NEIGHBOUR: 'it returns false'. Refute it at one input. -/
def sweepStepsWrong : ChangeSpec := { name := "sweepSteps", fn := fun _ => fun
  | [d1, d2, d3] => { results := [.lit (.bool false)], args := [d1, d2, d3] }
  | _ => none }
def SweepStepsWrongFalsely : Prop := sweepStepsRow.holds Tryz.pinned (OpenSpec.ofChange sweepStepsWrong)

/-- 'stanchionlaw26.SweepNone': WHATEVER THE INPUT: true; the input reads as it did. -/
def sweepNoneSpec : ChangeSpec := { name := "sweepNone", fn := fun _ => fun
  | [d] => { results := [.lit (.bool true)], args := [d] }
  | _ => none }
def sweepNoneRow : OpenClaim := { program := "ytcmgnhkpfllinaagreat", sum := "3c2a24e1928c1fe8a47d524ae52d86187089111b3a6ae562f74fee9c287901e1", func := "stanchion/stanchionlaw26.SweepNone", spec := "sweepNone", inPlace := ["internal/bytealg.Compare", "slices.overlaps[[]byte]"], unfollowed := true, recurses := true, apart := false }
def SweepNoneSaid : Prop := sweepNoneRow.holds Tryz.pinned (OpenSpec.ofChange sweepNoneSpec)

/-- ITS FALSE NEIGHBOUR: 'it returns false'. Refute it at one input. -/
def sweepNoneWrong : ChangeSpec := { name := "sweepNone", fn := fun _ => fun
  | [d] => { results := [.lit (.bool false)], args := [d] }
  | _ => none }
def SweepNoneWrongFalsely : Prop := sweepNoneRow.holds Tryz.pinned (OpenSpec.ofChange sweepNoneWrong)

/-- 'stanchionlaw26.SweepAll': WHATEVER THE INPUT: true; the input reads as it did. -/
def sweepAllSpec : ChangeSpec := { name := "sweepAll", fn := fun _ => fun
  | [d1, d2, d3] => { results := [.lit (.bool true)], args := [d1, d2, d3] }
  | _ => none }
def sweepAllRow : OpenClaim := { program := "ytcmgnhkpfllinaagreat", sum := "3c2a24e1928c1fe8a47d524ae52d86187089111b3a6ae562f74fee9c287901e1", func := "stanchion/stanchionlaw26.SweepAll", spec := "sweepAll", inPlace := ["internal/bytealg.Compare", "slices.overlaps[[]byte]"], unfollowed := true, recurses := true, apart := false }
def SweepAllSaid : Prop := sweepAllRow.holds Tryz.pinned (OpenSpec.ofChange sweepAllSpec)

/-- ITS FALSE NEIGHBOUR: 'it returns false'. Refute it at one input. -/
def sweepAllWrong : ChangeSpec := { name := "sweepAll", fn := fun _ => fun
  | [d1, d2, d3] => { results := [.lit (.bool false)], args := [d1, d2, d3] }
  | _ => none }
def SweepAllWrongFalsely : Prop := sweepAllRow.holds Tryz.pinned (OpenSpec.ofChange sweepAllWrong)

/-- 'stanchionlaw10.FsckPlays': WHATEVER THE INPUT: true; the input reads as it did. -/
def fsckPlaysSpec : ChangeSpec := { name := "fsckPlays", fn := fun _ => fun
  | [d1, d2] => { results := [.lit (.bool true)], args := [d1, d2] }
  | _ => none }
def fsckPlaysRow : OpenClaim := { program := "ytcmgnhkpfllinaagreat", sum := "3c2a24e1928c1fe8a47d524ae52d86187089111b3a6ae562f74fee9c287901e1", func := "stanchion/stanchionlaw10.FsckPlays", spec := "fsckPlays", inPlace := ["internal/bytealg.Compare", "slices.overlaps[[]byte]"], unfollowed := true, recurses := true, apart := false }
def FsckPlaysSaid : Prop := fsckPlaysRow.holds Tryz.pinned (OpenSpec.ofChange fsckPlaysSpec)

/-- ITS FALSE NEIGHBOUR: 'it returns false'. Refute it at one input. -/
def fsckPlaysWrong : ChangeSpec := { name := "fsckPlays", fn := fun _ => fun
  | [d1, d2] => { results := [.lit (.bool false)], args := [d1, d2] }
  | _ => none }
def FsckPlaysWrongFalsely : Prop := fsckPlaysRow.holds Tryz.pinned (OpenSpec.ofChange fsckPlaysWrong)

/-- 'stanchionlaw25.AffinLasts': WHATEVER THE INPUT: true; the input reads as it did. -/
def affinLastsSpec : ChangeSpec := { name := "affinLasts", fn := fun _ => fun
  | [d1, d2, d3] => { results := [.lit (.bool true)], args := [d1, d2, d3] }
  | _ => none }
def affinLastsRow : OpenClaim := { program := "ytcmgnhkpfllinaagreat", sum := "3c2a24e1928c1fe8a47d524ae52d86187089111b3a6ae562f74fee9c287901e1", func := "stanchion/stanchionlaw25.AffinLasts", spec := "affinLasts", inPlace := ["internal/bytealg.Compare", "slices.overlaps[[]byte]"], unfollowed := true, recurses := true, apart := false }
def AffinLastsSaid : Prop := affinLastsRow.holds Tryz.pinned (OpenSpec.ofChange affinLastsSpec)

/-- ITS FALSE NEIGHBOUR: 'it returns false'. Refute it at one input. -/
def affinLastsWrong : ChangeSpec := { name := "affinLasts", fn := fun _ => fun
  | [d1, d2, d3] => { results := [.lit (.bool false)], args := [d1, d2, d3] }
  | _ => none }
def AffinLastsWrongFalsely : Prop := affinLastsRow.holds Tryz.pinned (OpenSpec.ofChange affinLastsWrong)

/- THE SECOND FORM. 'bulk': how many values and letters a reading holds, each counted each time it is reached (what is shared counts as often as it is met; a slice's spare places count too). A statement '..UptoSaid' is the law's where the arguments, and the package variables that the reading takes, are together of bulk at most 1048576: NARROWER than '..Said'. Prove '..Said' where nothing that the law and all that it calls make is longer than what came in: it says more and counts as full. Else prove '..UptoSaid'. A law counts once. -/
mutual
def uptoBulk {H : Type} : DataW H → Nat
  | .lit (.string bytes) => bytes.length + 1
  | .lit _ => 1
  | .nil => 1
  | .ptr d => uptoBulk d + 1
  | .slice elems spare => uptoBulkAll elems + uptoBulkAll spare + 1
  | .agg parts => uptoBulkAll parts + 1
  | .iface _ d => uptoBulk d + 1
  | .map entries => uptoBulkEntries entries + 1
  | .held _ => 1
def uptoBulkAll {H : Type} : List (DataW H) → Nat
  | [] => 0
  | d :: r => uptoBulk d + uptoBulkAll r
def uptoBulkEntries {H : Type} : List (Lit × DataW H) → Nat
  | [] => 0
  | x :: r => uptoBulkEntry x + uptoBulkEntries r
def uptoBulkEntry {H : Type} : Lit × DataW H → Nat
  | (.string bytes, d) => bytes.length + uptoBulk d + 1
  | (_, d) => uptoBulk d + 1
 end
def uptoSmall : (H : Type) → List (DataW H) → Bool := fun _ ds => decide (uptoBulkAll ds ≤ 1048576)
def OpenSpec.upto (s : _root_.Go.ChangeSpec) : _root_.Go.OpenSpec := { _root_.Go.OpenSpec.ofChange s with cond := some uptoSmall }

/-- 'stanchionlaw26.SweepFew', WHERE WHAT IT READS IS OF BULK AT MOST 1048576: true; the input reads as it did. -/
def sweepFewUptoRow : OpenClaim := { program := "ytcmgnhkpfllinaagreat", sum := "3c2a24e1928c1fe8a47d524ae52d86187089111b3a6ae562f74fee9c287901e1", func := "stanchion/stanchionlaw26.SweepFew", spec := "sweepFew", inPlace := ["internal/bytealg.Compare", "slices.overlaps[[]byte]"], unfollowed := true, recurses := true, apart := false, narrowed := true }
def SweepFewUptoSaid : Prop := sweepFewUptoRow.holds Tryz.pinned (OpenSpec.upto sweepFewSpec)

/-- 'stanchionlaw26.SweepSteps', WHERE WHAT IT READS IS OF BULK AT MOST 1048576: true; the input reads as it did. -/
def sweepStepsUptoRow : OpenClaim := { program := "ytcmgnhkpfllinaagreat", sum := "3c2a24e1928c1fe8a47d524ae52d86187089111b3a6ae562f74fee9c287901e1", func := "stanchion/stanchionlaw26.SweepSteps", spec := "sweepSteps", inPlace := ["internal/bytealg.Compare", "slices.overlaps[[]byte]"], unfollowed := true, recurses := true, apart := false, narrowed := true }
def SweepStepsUptoSaid : Prop := sweepStepsUptoRow.holds Tryz.pinned (OpenSpec.upto sweepStepsSpec)

/-- 'stanchionlaw26.SweepNone', WHERE WHAT IT READS IS OF BULK AT MOST 1048576: true; the input reads as it did. -/
def sweepNoneUptoRow : OpenClaim := { program := "ytcmgnhkpfllinaagreat", sum := "3c2a24e1928c1fe8a47d524ae52d86187089111b3a6ae562f74fee9c287901e1", func := "stanchion/stanchionlaw26.SweepNone", spec := "sweepNone", inPlace := ["internal/bytealg.Compare", "slices.overlaps[[]byte]"], unfollowed := true, recurses := true, apart := false, narrowed := true }
def SweepNoneUptoSaid : Prop := sweepNoneUptoRow.holds Tryz.pinned (OpenSpec.upto sweepNoneSpec)

/-- 'stanchionlaw26.SweepAll', WHERE WHAT IT READS IS OF BULK AT MOST 1048576: true; the input reads as it did. -/
def sweepAllUptoRow : OpenClaim := { program := "ytcmgnhkpfllinaagreat", sum := "3c2a24e1928c1fe8a47d524ae52d86187089111b3a6ae562f74fee9c287901e1", func := "stanchion/stanchionlaw26.SweepAll", spec := "sweepAll", inPlace := ["internal/bytealg.Compare", "slices.overlaps[[]byte]"], unfollowed := true, recurses := true, apart := false, narrowed := true }
def SweepAllUptoSaid : Prop := sweepAllUptoRow.holds Tryz.pinned (OpenSpec.upto sweepAllSpec)

/-- 'stanchionlaw10.FsckPlays', WHERE WHAT IT READS IS OF BULK AT MOST 1048576: true; the input reads as it did. -/
def fsckPlaysUptoRow : OpenClaim := { program := "ytcmgnhkpfllinaagreat", sum := "3c2a24e1928c1fe8a47d524ae52d86187089111b3a6ae562f74fee9c287901e1", func := "stanchion/stanchionlaw10.FsckPlays", spec := "fsckPlays", inPlace := ["internal/bytealg.Compare", "slices.overlaps[[]byte]"], unfollowed := true, recurses := true, apart := false, narrowed := true }
def FsckPlaysUptoSaid : Prop := fsckPlaysUptoRow.holds Tryz.pinned (OpenSpec.upto fsckPlaysSpec)

/-- 'stanchionlaw25.AffinLasts', WHERE WHAT IT READS IS OF BULK AT MOST 1048576: true; the input reads as it did. -/
def affinLastsUptoRow : OpenClaim := { program := "ytcmgnhkpfllinaagreat", sum := "3c2a24e1928c1fe8a47d524ae52d86187089111b3a6ae562f74fee9c287901e1", func := "stanchion/stanchionlaw25.AffinLasts", spec := "affinLasts", inPlace := ["internal/bytealg.Compare", "slices.overlaps[[]byte]"], unfollowed := true, recurses := true, apart := false, narrowed := true }
def AffinLastsUptoSaid : Prop := affinLastsUptoRow.holds Tryz.pinned (OpenSpec.upto affinLastsSpec)

end Rows
end Go.Proofs.YtcmgnhkpfllinaaGreat
