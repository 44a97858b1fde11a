/-
  No cell of these rows narrows 'for every input' (looked for: loops, veiled, ifaces, maps, wideKeys, modest, calm, conditions, laid).
  DERIVED. THE GIVEN ROWS OF THIS SEAT. 6 by the template 'for every input the law returns true; each argument reads behind the call as it read before'; 0 by the template 'total and deterministic' (their statements: YtgbdeckmfbimiaaTotals.lean).
  GIVEN WITH THE SEED: the statements are not yours to turn. If you find one false, say at which input.
  Laid BY PROGRAM, IN A SANDBOX (cutbox-rows.mjs): the forced cells as the released guide's own fill.sh prints them over the translation fae8fb81f82c8f7a… (all of the seat's roots in one cut). By AI agents, Wed Nov 11 2026. No macro, syntax, notation, axiom, sorry.
-/
import Derived.Test.YtgbdeckmfbimiaaChecked
import GoSem.Claim
import GoSem.ClaimJoined
import GoSem.ClaimMapViews
import Derived.JoinedTies
import Derived.KernelRfl
namespace Go.Proofs.Ytgbdeckmfbimiaa
/- THE CELL 'sum', in the pinned program and in every row, IS THE sha256 OF THE DUMP (.gsa) THAT YtgbdeckmfbimiaaProg.lean LOADS. Nothing in Lean hashes anything: it is a label: what it is worth is what the hold of that sum in a sandbox is worth. -/
noncomputable def Try.pinned : Pinned := { name := "ytgbdeckmfbimiaa", sum := "fae8fb81f82c8f7a9df376ea926e8b1219bb181b8a7feb04a25e1ddb8262c97c", checked := Try.checked }
namespace Rows
def none {H : Type} : Left H := { results := [], args := [] }

/-- 'garboardlaw27.StreamRef': WHATEVER THE INPUT: true; the input reads as it did. -/
def streamRefSpec : ChangeSpec := { name := "streamRef", fn := fun _ => fun
  | [d1, d2, d3] => { results := [.lit (.bool true)], args := [d1, d2, d3] }
  | _ => none }
def streamRefRow : OpenClaim := { program := "ytgbdeckmfbimiaa", sum := "fae8fb81f82c8f7a9df376ea926e8b1219bb181b8a7feb04a25e1ddb8262c97c", func := "garboard/garboardlaw27.StreamRef", spec := "streamRef", unfollowed := true, recurses := true, apart := false }
def StreamRefSaid : Prop := streamRefRow.holds Try.pinned (OpenSpec.ofChange streamRefSpec)

/-- ITS FALSE NEIGHBOUR: 'it returns false'. Refute it at one input. -/
def streamRefWrong : ChangeSpec := { name := "streamRef", fn := fun _ => fun
  | [d1, d2, d3] => { results := [.lit (.bool false)], args := [d1, d2, d3] }
  | _ => none }
def StreamRefWrongFalsely : Prop := streamRefRow.holds Try.pinned (OpenSpec.ofChange streamRefWrong)

/-- 'garboardlaw27.StreamPlays': WHATEVER THE INPUT: true; the input reads as it did. -/
def streamPlaysSpec : ChangeSpec := { name := "streamPlays", fn := fun _ => fun
  | [d1, d2, d3] => { results := [.lit (.bool true)], args := [d1, d2, d3] }
  | _ => none }
def streamPlaysRow : OpenClaim := { program := "ytgbdeckmfbimiaa", sum := "fae8fb81f82c8f7a9df376ea926e8b1219bb181b8a7feb04a25e1ddb8262c97c", func := "garboard/garboardlaw27.StreamPlays", spec := "streamPlays", unfollowed := true, recurses := true, apart := false }
def StreamPlaysSaid : Prop := streamPlaysRow.holds Try.pinned (OpenSpec.ofChange streamPlaysSpec)

/-- ITS FALSE NEIGHBOUR: 'it returns false'. Refute it at one input. -/
def streamPlaysWrong : ChangeSpec := { name := "streamPlays", fn := fun _ => fun
  | [d1, d2, d3] => { results := [.lit (.bool false)], args := [d1, d2, d3] }
  | _ => none }
def StreamPlaysWrongFalsely : Prop := streamPlaysRow.holds Try.pinned (OpenSpec.ofChange streamPlaysWrong)

/-- 'garboardlaw27.StreamGrows': WHATEVER THE INPUT: true; the input reads as it did. -/
def streamGrowsSpec : ChangeSpec := { name := "streamGrows", fn := fun _ => fun
  | [d1, d2, d3] => { results := [.lit (.bool true)], args := [d1, d2, d3] }
  | _ => none }
def streamGrowsRow : OpenClaim := { program := "ytgbdeckmfbimiaa", sum := "fae8fb81f82c8f7a9df376ea926e8b1219bb181b8a7feb04a25e1ddb8262c97c", func := "garboard/garboardlaw27.StreamGrows", spec := "streamGrows", unfollowed := true, recurses := true, apart := false }
def StreamGrowsSaid : Prop := streamGrowsRow.holds Try.pinned (OpenSpec.ofChange streamGrowsSpec)

/-- ITS FALSE NEIGHBOUR: 'it returns false'. Refute it at one input. -/
def streamGrowsWrong : ChangeSpec := { name := "streamGrows", fn := fun _ => fun
  | [d1, d2, d3] => { results := [.lit (.bool false)], args := [d1, d2, d3] }
  | _ => none }
def StreamGrowsWrongFalsely : Prop := streamGrowsRow.holds Try.pinned (OpenSpec.ofChange streamGrowsWrong)

/-- 'garboardlaw27.StreamNobody': WHATEVER THE INPUT: true; the input reads as it did. -/
def streamNobodySpec : ChangeSpec := { name := "streamNobody", fn := fun _ => fun
  | [d] => { results := [.lit (.bool true)], args := [d] }
  | _ => none }
def streamNobodyRow : OpenClaim := { program := "ytgbdeckmfbimiaa", sum := "fae8fb81f82c8f7a9df376ea926e8b1219bb181b8a7feb04a25e1ddb8262c97c", func := "garboard/garboardlaw27.StreamNobody", spec := "streamNobody", unfollowed := true, recurses := true, apart := false }
def StreamNobodySaid : Prop := streamNobodyRow.holds Try.pinned (OpenSpec.ofChange streamNobodySpec)

/-- ITS FALSE NEIGHBOUR: 'it returns false'. Refute it at one input. -/
def streamNobodyWrong : ChangeSpec := { name := "streamNobody", fn := fun _ => fun
  | [d] => { results := [.lit (.bool false)], args := [d] }
  | _ => none }
def StreamNobodyWrongFalsely : Prop := streamNobodyRow.holds Try.pinned (OpenSpec.ofChange streamNobodyWrong)

/-- 'garboardlaw16.RingStays': WHATEVER THE INPUT: true; the input reads as it did. -/
def ringStaysSpec : ChangeSpec := { name := "ringStays", fn := fun _ => fun
  | [d1, d2, d3] => { results := [.lit (.bool true)], args := [d1, d2, d3] }
  | _ => none }
def ringStaysRow : OpenClaim := { program := "ytgbdeckmfbimiaa", sum := "fae8fb81f82c8f7a9df376ea926e8b1219bb181b8a7feb04a25e1ddb8262c97c", func := "garboard/garboardlaw16.RingStays", spec := "ringStays", unfollowed := true, recurses := true, apart := false }
def RingStaysSaid : Prop := ringStaysRow.holds Try.pinned (OpenSpec.ofChange ringStaysSpec)

/-- ITS FALSE NEIGHBOUR: 'it returns false'. Refute it at one input. -/
def ringStaysWrong : ChangeSpec := { name := "ringStays", fn := fun _ => fun
  | [d1, d2, d3] => { results := [.lit (.bool false)], args := [d1, d2, d3] }
  | _ => none }
def RingStaysWrongFalsely : Prop := ringStaysRow.holds Try.pinned (OpenSpec.ofChange ringStaysWrong)

/-- 'garboardlaw16.RingNobody': WHATEVER THE INPUT: true; the input reads as it did. -/
def ringNobodySpec : ChangeSpec := { name := "ringNobody", fn := fun _ => fun
  | [d1, d2, d3] => { results := [.lit (.bool true)], args := [d1, d2, d3] }
  | _ => none }
def ringNobodyRow : OpenClaim := { program := "ytgbdeckmfbimiaa", sum := "fae8fb81f82c8f7a9df376ea926e8b1219bb181b8a7feb04a25e1ddb8262c97c", func := "garboard/garboardlaw16.RingNobody", spec := "ringNobody", unfollowed := true, recurses := true, apart := false }
def RingNobodySaid : Prop := ringNobodyRow.holds Try.pinned (OpenSpec.ofChange ringNobodySpec)

/-- ITS FALSE NEIGHBOUR: 'it returns false'. Refute it at one input. -/
def ringNobodyWrong : ChangeSpec := { name := "ringNobody", fn := fun _ => fun
  | [d1, d2, d3] => { results := [.lit (.bool false)], args := [d1, d2, d3] }
  | _ => none }
def RingNobodyWrongFalsely : Prop := ringNobodyRow.holds Try.pinned (OpenSpec.ofChange ringNobodyWrong)

/- THE SECOND FORM. 'bulk': how many values and letters a reading holds, each counted each time it is reached (what is shared counts as often as it is met; a slice's spare places count too). A statement '..UptoSaid' is the law's where the arguments, and the package variables that the reading takes, are together of bulk at most 1048576: NARROWER than '..Said'. Prove '..Said' where nothing that the law and all that it calls make is longer than what came in: it says more and counts as full. Else prove '..UptoSaid'. A law counts once. -/
mutual
def uptoBulk {H : Type} : DataW H → Nat
  | .lit (.string bytes) => bytes.length + 1
  | .lit _ => 1
  | .nil => 1
  | .ptr d => uptoBulk d + 1
  | .slice elems spare => uptoBulkAll elems + uptoBulkAll spare + 1
  | .agg parts => uptoBulkAll parts + 1
  | .iface _ d => uptoBulk d + 1
  | .map entries => uptoBulkEntries entries + 1
  | .held _ => 1
def uptoBulkAll {H : Type} : List (DataW H) → Nat
  | [] => 0
  | d :: r => uptoBulk d + uptoBulkAll r
def uptoBulkEntries {H : Type} : List (Lit × DataW H) → Nat
  | [] => 0
  | x :: r => uptoBulkEntry x + uptoBulkEntries r
def uptoBulkEntry {H : Type} : Lit × DataW H → Nat
  | (.string bytes, d) => bytes.length + uptoBulk d + 1
  | (_, d) => uptoBulk d + 1
 end
def uptoSmall : (H : Type) → List (DataW H) → Bool := fun _ ds => decide (uptoBulkAll ds ≤ 1048576)
def OpenSpec.upto (s : _root_.Go.ChangeSpec) : _root_.Go.OpenSpec := { _root_.Go.OpenSpec.ofChange s with cond := some uptoSmall }

/-- 'garboardlaw27.StreamRef', WHERE WHAT IT READS IS OF BULK AT MOST 1048576: true; the input reads as it did. -/
def streamRefUptoRow : OpenClaim := { program := "ytgbdeckmfbimiaa", sum := "fae8fb81f82c8f7a9df376ea926e8b1219bb181b8a7feb04a25e1ddb8262c97c", func := "garboard/garboardlaw27.StreamRef", spec := "streamRef", unfollowed := true, recurses := true, apart := false, narrowed := true }
def StreamRefUptoSaid : Prop := streamRefUptoRow.holds Try.pinned (OpenSpec.upto streamRefSpec)

/-- 'garboardlaw27.StreamPlays', WHERE WHAT IT READS IS OF BULK AT MOST 1048576: true; the input reads as it did. -/
def streamPlaysUptoRow : OpenClaim := { program := "ytgbdeckmfbimiaa", sum := "fae8fb81f82c8f7a9df376ea926e8b1219bb181b8a7feb04a25e1ddb8262c97c", func := "garboard/garboardlaw27.StreamPlays", spec := "streamPlays", unfollowed := true, recurses := true, apart := false, narrowed := true }
def StreamPlaysUptoSaid : Prop := streamPlaysUptoRow.holds Try.pinned (OpenSpec.upto streamPlaysSpec)

/-- 'garboardlaw27.StreamGrows', WHERE WHAT IT READS IS OF BULK AT MOST 1048576: true; the input reads as it did. -/
def streamGrowsUptoRow : OpenClaim := { program := "ytgbdeckmfbimiaa", sum := "fae8fb81f82c8f7a9df376ea926e8b1219bb181b8a7feb04a25e1ddb8262c97c", func := "garboard/garboardlaw27.StreamGrows", spec := "streamGrows", unfollowed := true, recurses := true, apart := false, narrowed := true }
def StreamGrowsUptoSaid : Prop := streamGrowsUptoRow.holds Try.pinned (OpenSpec.upto streamGrowsSpec)

/-- 'garboardlaw27.StreamNobody', WHERE WHAT IT READS IS OF BULK AT MOST 1048576: true; the input reads as it did. -/
def streamNobodyUptoRow : OpenClaim := { program := "ytgbdeckmfbimiaa", sum := "fae8fb81f82c8f7a9df376ea926e8b1219bb181b8a7feb04a25e1ddb8262c97c", func := "garboard/garboardlaw27.StreamNobody", spec := "streamNobody", unfollowed := true, recurses := true, apart := false, narrowed := true }
def StreamNobodyUptoSaid : Prop := streamNobodyUptoRow.holds Try.pinned (OpenSpec.upto streamNobodySpec)

/-- 'garboardlaw16.RingStays', WHERE WHAT IT READS IS OF BULK AT MOST 1048576: true; the input reads as it did. -/
def ringStaysUptoRow : OpenClaim := { program := "ytgbdeckmfbimiaa", sum := "fae8fb81f82c8f7a9df376ea926e8b1219bb181b8a7feb04a25e1ddb8262c97c", func := "garboard/garboardlaw16.RingStays", spec := "ringStays", unfollowed := true, recurses := true, apart := false, narrowed := true }
def RingStaysUptoSaid : Prop := ringStaysUptoRow.holds Try.pinned (OpenSpec.upto ringStaysSpec)

/-- 'garboardlaw16.RingNobody', WHERE WHAT IT READS IS OF BULK AT MOST 1048576: true; the input reads as it did. -/
def ringNobodyUptoRow : OpenClaim := { program := "ytgbdeckmfbimiaa", sum := "fae8fb81f82c8f7a9df376ea926e8b1219bb181b8a7feb04a25e1ddb8262c97c", func := "garboard/garboardlaw16.RingNobody", spec := "ringNobody", unfollowed := true, recurses := true, apart := false, narrowed := true }
def RingNobodyUptoSaid : Prop := ringNobodyUptoRow.holds Try.pinned (OpenSpec.upto ringNobodySpec)

end Rows
end Go.Proofs.Ytgbdeckmfbimiaa
