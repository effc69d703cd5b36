/-
  No cell of these rows narrows 'for every input' (looked for: loops, veiled, ifaces, maps, wideKeys, modest, calm, conditions, laid).
  DERIVED. THE GIVEN ROWS OF THIS SEAT. 12 by the template 'for every input the law returns true; each argument reads behind the call as it read before'; 0 by the template 'total and deterministic' (their statements: YtfdealobplcboaaGreatTotals.lean).
  GIVEN WITH THE SEED: the statements are not yours to turn. If you find one false, say at which input.
  Laid BY PROGRAM, IN A SANDBOX (cutbox-rows.mjs): the forced cells as the released guide's own fill.sh prints them over the translation 35b4a68f2f547dad… (all of the seat's roots in one cut). By AI agents, Wed Nov 11 2026. No macro, syntax, notation, axiom, sorry.
-/
import Derived.Test.YtfdealobplcboaaGreatChecked
import GoSem.Claim
import GoSem.ClaimJoined
import GoSem.ClaimMapViews
import Derived.JoinedTies
import Derived.KernelRfl
namespace Go.Proofs.YtfdealobplcboaaGreat
/- THE CELL 'sum', in the pinned program and in every row, IS THE sha256 OF THE DUMP (.gsa) THAT YtfdealobplcboaaGreatProg.lean LOADS. Nothing in Lean hashes anything: it is a label: what it is worth is what the hold of that sum in a sandbox is worth. -/
noncomputable def Tryz.pinned : Pinned := { name := "ytfdealobplcboaagreat", sum := "35b4a68f2f547dadb53ae68fb563c959d119dc1e53d25c8186a1ebf6bb876e80", checked := Tryz.checked }
namespace Rows
def none {H : Type} : Left H := { results := [], args := [] }

/-- 'narrowslaw08.SegmentCrosses': WHATEVER THE INPUT: true; the input reads as it did. -/
def segmentCrossesSpec : ChangeSpec := { name := "segmentCrosses", fn := fun _ => fun
  | [d1, d2] => { results := [.lit (.bool true)], args := [d1, d2] }
  | _ => none }
def segmentCrossesRow : OpenClaim := { program := "ytfdealobplcboaagreat", sum := "35b4a68f2f547dadb53ae68fb563c959d119dc1e53d25c8186a1ebf6bb876e80", func := "narrows/narrowslaw08.SegmentCrosses", spec := "segmentCrosses", inPlace := ["internal/abi.NoEscape"], unfollowed := true, recurses := true, named := ["math/bits.overflowError"], apart := false }
def SegmentCrossesSaid : Prop := segmentCrossesRow.holds Tryz.pinned (OpenSpec.ofChange segmentCrossesSpec)

/-- ITS FALSE NEIGHBOUR: 'it returns false'. Refute it at one input. -/
def segmentCrossesWrong : ChangeSpec := { name := "segmentCrosses", fn := fun _ => fun
  | [d1, d2] => { results := [.lit (.bool false)], args := [d1, d2] }
  | _ => none }
def SegmentCrossesWrongFalsely : Prop := segmentCrossesRow.holds Tryz.pinned (OpenSpec.ofChange segmentCrossesWrong)

/-- 'narrowslaw08.SegmentCommon': WHATEVER THE INPUT: true; the input reads as it did. -/
def segmentCommonSpec : ChangeSpec := { name := "segmentCommon", fn := fun _ => fun
  | [d1, d2, d3] => { results := [.lit (.bool true)], args := [d1, d2, d3] }
  | _ => none }
def segmentCommonRow : OpenClaim := { program := "ytfdealobplcboaagreat", sum := "35b4a68f2f547dadb53ae68fb563c959d119dc1e53d25c8186a1ebf6bb876e80", func := "narrows/narrowslaw08.SegmentCommon", spec := "segmentCommon", inPlace := ["internal/abi.NoEscape"], unfollowed := true, recurses := true, named := ["math/bits.overflowError"], apart := false }
def SegmentCommonSaid : Prop := segmentCommonRow.holds Tryz.pinned (OpenSpec.ofChange segmentCommonSpec)

/-- ITS FALSE NEIGHBOUR: 'it returns false'. Refute it at one input. -/
def segmentCommonWrong : ChangeSpec := { name := "segmentCommon", fn := fun _ => fun
  | [d1, d2, d3] => { results := [.lit (.bool false)], args := [d1, d2, d3] }
  | _ => none }
def SegmentCommonWrongFalsely : Prop := segmentCommonRow.holds Tryz.pinned (OpenSpec.ofChange segmentCommonWrong)

/-- 'narrowslaw08.SegmentHeights': WHATEVER THE INPUT: true; the input reads as it did. -/
def segmentHeightsSpec : ChangeSpec := { name := "segmentHeights", fn := fun _ => fun
  | [d1, d2] => { results := [.lit (.bool true)], args := [d1, d2] }
  | _ => none }
def segmentHeightsRow : OpenClaim := { program := "ytfdealobplcboaagreat", sum := "35b4a68f2f547dadb53ae68fb563c959d119dc1e53d25c8186a1ebf6bb876e80", func := "narrows/narrowslaw08.SegmentHeights", spec := "segmentHeights", inPlace := ["internal/abi.NoEscape"], unfollowed := true, recurses := true, named := ["math/bits.overflowError"], apart := false }
def SegmentHeightsSaid : Prop := segmentHeightsRow.holds Tryz.pinned (OpenSpec.ofChange segmentHeightsSpec)

/-- ITS FALSE NEIGHBOUR: 'it returns false'. Refute it at one input. -/
def segmentHeightsWrong : ChangeSpec := { name := "segmentHeights", fn := fun _ => fun
  | [d1, d2] => { results := [.lit (.bool false)], args := [d1, d2] }
  | _ => none }
def SegmentHeightsWrongFalsely : Prop := segmentHeightsRow.holds Tryz.pinned (OpenSpec.ofChange segmentHeightsWrong)

/-- 'narrowslaw08.SegmentNearest': WHATEVER THE INPUT: true; the input reads as it did. -/
def segmentNearestSpec : ChangeSpec := { name := "segmentNearest", fn := fun _ => fun
  | [d1, d2, d3] => { results := [.lit (.bool true)], args := [d1, d2, d3] }
  | _ => none }
def segmentNearestRow : OpenClaim := { program := "ytfdealobplcboaagreat", sum := "35b4a68f2f547dadb53ae68fb563c959d119dc1e53d25c8186a1ebf6bb876e80", func := "narrows/narrowslaw08.SegmentNearest", spec := "segmentNearest", inPlace := ["internal/abi.NoEscape"], unfollowed := true, recurses := true, named := ["math/bits.overflowError"], apart := false }
def SegmentNearestSaid : Prop := segmentNearestRow.holds Tryz.pinned (OpenSpec.ofChange segmentNearestSpec)

/-- ITS FALSE NEIGHBOUR: 'it returns false'. Refute it at one input. -/
def segmentNearestWrong : ChangeSpec := { name := "segmentNearest", fn := fun _ => fun
  | [d1, d2, d3] => { results := [.lit (.bool false)], args := [d1, d2, d3] }
  | _ => none }
def SegmentNearestWrongFalsely : Prop := segmentNearestRow.holds Tryz.pinned (OpenSpec.ofChange segmentNearestWrong)

/-- 'narrowslaw08.SegmentPairs': WHATEVER THE INPUT: true; the input reads as it did. -/
def segmentPairsSpec : ChangeSpec := { name := "segmentPairs", fn := fun _ => fun
  | [d1, d2, d3] => { results := [.lit (.bool true)], args := [d1, d2, d3] }
  | _ => none }
def segmentPairsRow : OpenClaim := { program := "ytfdealobplcboaagreat", sum := "35b4a68f2f547dadb53ae68fb563c959d119dc1e53d25c8186a1ebf6bb876e80", func := "narrows/narrowslaw08.SegmentPairs", spec := "segmentPairs", inPlace := ["internal/abi.NoEscape"], unfollowed := true, recurses := true, named := ["math/bits.overflowError"], apart := false }
def SegmentPairsSaid : Prop := segmentPairsRow.holds Tryz.pinned (OpenSpec.ofChange segmentPairsSpec)

/-- ITS FALSE NEIGHBOUR: 'it returns false'. Refute it at one input. -/
def segmentPairsWrong : ChangeSpec := { name := "segmentPairs", fn := fun _ => fun
  | [d1, d2, d3] => { results := [.lit (.bool false)], args := [d1, d2, d3] }
  | _ => none }
def SegmentPairsWrongFalsely : Prop := segmentPairsRow.holds Tryz.pinned (OpenSpec.ofChange segmentPairsWrong)

/-- 'narrowslaw08.SegmentClips': WHATEVER THE INPUT: true; the input reads as it did. -/
def segmentClipsSpec : ChangeSpec := { name := "segmentClips", fn := fun _ => fun
  | [d1, d2, d3] => { results := [.lit (.bool true)], args := [d1, d2, d3] }
  | _ => none }
def segmentClipsRow : OpenClaim := { program := "ytfdealobplcboaagreat", sum := "35b4a68f2f547dadb53ae68fb563c959d119dc1e53d25c8186a1ebf6bb876e80", func := "narrows/narrowslaw08.SegmentClips", spec := "segmentClips", inPlace := ["internal/abi.NoEscape"], unfollowed := true, recurses := true, named := ["math/bits.overflowError"], apart := false }
def SegmentClipsSaid : Prop := segmentClipsRow.holds Tryz.pinned (OpenSpec.ofChange segmentClipsSpec)

/-- ITS FALSE NEIGHBOUR: 'it returns false'. Refute it at one input. -/
def segmentClipsWrong : ChangeSpec := { name := "segmentClips", fn := fun _ => fun
  | [d1, d2, d3] => { results := [.lit (.bool false)], args := [d1, d2, d3] }
  | _ => none }
def SegmentClipsWrongFalsely : Prop := segmentClipsRow.holds Tryz.pinned (OpenSpec.ofChange segmentClipsWrong)

/-- 'narrowslaw10.RingChecks': WHATEVER THE INPUT: true; the input reads as it did. -/
def ringChecksSpec : ChangeSpec := { name := "ringChecks", fn := fun _ => fun
  | [d1, d2] => { results := [.lit (.bool true)], args := [d1, d2] }
  | _ => none }
def ringChecksRow : OpenClaim := { program := "ytfdealobplcboaagreat", sum := "35b4a68f2f547dadb53ae68fb563c959d119dc1e53d25c8186a1ebf6bb876e80", func := "narrows/narrowslaw10.RingChecks", spec := "ringChecks", unfollowed := true, recurses := true, named := ["math/bits.overflowError"], apart := false }
def RingChecksSaid : Prop := ringChecksRow.holds Tryz.pinned (OpenSpec.ofChange ringChecksSpec)

/-- ITS FALSE NEIGHBOUR: 'it returns false'. Refute it at one input. -/
def ringChecksWrong : ChangeSpec := { name := "ringChecks", fn := fun _ => fun
  | [d1, d2] => { results := [.lit (.bool false)], args := [d1, d2] }
  | _ => none }
def RingChecksWrongFalsely : Prop := ringChecksRow.holds Tryz.pinned (OpenSpec.ofChange ringChecksWrong)

/-- 'narrowslaw10.RingAreas': WHATEVER THE INPUT: true; the input reads as it did. -/
def ringAreasSpec : ChangeSpec := { name := "ringAreas", fn := fun _ => fun
  | [d1, d2, d3, d4] => { results := [.lit (.bool true)], args := [d1, d2, d3, d4] }
  | _ => none }
def ringAreasRow : OpenClaim := { program := "ytfdealobplcboaagreat", sum := "35b4a68f2f547dadb53ae68fb563c959d119dc1e53d25c8186a1ebf6bb876e80", func := "narrows/narrowslaw10.RingAreas", spec := "ringAreas", unfollowed := true, recurses := true, named := ["math/bits.overflowError"], apart := false }
def RingAreasSaid : Prop := ringAreasRow.holds Tryz.pinned (OpenSpec.ofChange ringAreasSpec)

/-- ITS FALSE NEIGHBOUR: 'it returns false'. Refute it at one input. -/
def ringAreasWrong : ChangeSpec := { name := "ringAreas", fn := fun _ => fun
  | [d1, d2, d3, d4] => { results := [.lit (.bool false)], args := [d1, d2, d3, d4] }
  | _ => none }
def RingAreasWrongFalsely : Prop := ringAreasRow.holds Tryz.pinned (OpenSpec.ofChange ringAreasWrong)

/-- 'narrowslaw10.RingSides': WHATEVER THE INPUT: true; the input reads as it did. -/
def ringSidesSpec : ChangeSpec := { name := "ringSides", fn := fun _ => fun
  | [d1, d2] => { results := [.lit (.bool true)], args := [d1, d2] }
  | _ => none }
def ringSidesRow : OpenClaim := { program := "ytfdealobplcboaagreat", sum := "35b4a68f2f547dadb53ae68fb563c959d119dc1e53d25c8186a1ebf6bb876e80", func := "narrows/narrowslaw10.RingSides", spec := "ringSides", unfollowed := true, recurses := true, named := ["math/bits.overflowError"], apart := false }
def RingSidesSaid : Prop := ringSidesRow.holds Tryz.pinned (OpenSpec.ofChange ringSidesSpec)

/-- ITS FALSE NEIGHBOUR: 'it returns false'. Refute it at one input. -/
def ringSidesWrong : ChangeSpec := { name := "ringSides", fn := fun _ => fun
  | [d1, d2] => { results := [.lit (.bool false)], args := [d1, d2] }
  | _ => none }
def RingSidesWrongFalsely : Prop := ringSidesRow.holds Tryz.pinned (OpenSpec.ofChange ringSidesWrong)

/-- 'narrowslaw10.RingParities': WHATEVER THE INPUT: true; the input reads as it did. -/
def ringParitiesSpec : ChangeSpec := { name := "ringParities", fn := fun _ => fun
  | [d1, d2, d3, d4] => { results := [.lit (.bool true)], args := [d1, d2, d3, d4] }
  | _ => none }
def ringParitiesRow : OpenClaim := { program := "ytfdealobplcboaagreat", sum := "35b4a68f2f547dadb53ae68fb563c959d119dc1e53d25c8186a1ebf6bb876e80", func := "narrows/narrowslaw10.RingParities", spec := "ringParities", unfollowed := true, recurses := true, named := ["math/bits.overflowError"], apart := false }
def RingParitiesSaid : Prop := ringParitiesRow.holds Tryz.pinned (OpenSpec.ofChange ringParitiesSpec)

/-- ITS FALSE NEIGHBOUR: 'it returns false'. Refute it at one input. -/
def ringParitiesWrong : ChangeSpec := { name := "ringParities", fn := fun _ => fun
  | [d1, d2, d3, d4] => { results := [.lit (.bool false)], args := [d1, d2, d3, d4] }
  | _ => none }
def RingParitiesWrongFalsely : Prop := ringParitiesRow.holds Tryz.pinned (OpenSpec.ofChange ringParitiesWrong)

/-- 'narrowslaw08.SegmentParts': WHATEVER THE INPUT: true; the input reads as it did. -/
def segmentPartsSpec : ChangeSpec := { name := "segmentParts", fn := fun _ => fun
  | [d1, d2, d3, d4] => { results := [.lit (.bool true)], args := [d1, d2, d3, d4] }
  | _ => none }
def segmentPartsRow : OpenClaim := { program := "ytfdealobplcboaagreat", sum := "35b4a68f2f547dadb53ae68fb563c959d119dc1e53d25c8186a1ebf6bb876e80", func := "narrows/narrowslaw08.SegmentParts", spec := "segmentParts", inPlace := ["internal/abi.NoEscape"], unfollowed := true, recurses := true, named := ["math/bits.overflowError"], apart := false }
def SegmentPartsSaid : Prop := segmentPartsRow.holds Tryz.pinned (OpenSpec.ofChange segmentPartsSpec)

/-- ITS FALSE NEIGHBOUR: 'it returns false'. Refute it at one input. -/
def segmentPartsWrong : ChangeSpec := { name := "segmentParts", fn := fun _ => fun
  | [d1, d2, d3, d4] => { results := [.lit (.bool false)], args := [d1, d2, d3, d4] }
  | _ => none }
def SegmentPartsWrongFalsely : Prop := segmentPartsRow.holds Tryz.pinned (OpenSpec.ofChange segmentPartsWrong)

/-- 'narrowslaw08.SegmentCuts': WHATEVER THE INPUT: true; the input reads as it did. -/
def segmentCutsSpec : ChangeSpec := { name := "segmentCuts", fn := fun _ => fun
  | [d1, d2] => { results := [.lit (.bool true)], args := [d1, d2] }
  | _ => none }
def segmentCutsRow : OpenClaim := { program := "ytfdealobplcboaagreat", sum := "35b4a68f2f547dadb53ae68fb563c959d119dc1e53d25c8186a1ebf6bb876e80", func := "narrows/narrowslaw08.SegmentCuts", spec := "segmentCuts", inPlace := ["internal/abi.NoEscape"], unfollowed := true, recurses := true, named := ["math/bits.overflowError"], apart := false }
def SegmentCutsSaid : Prop := segmentCutsRow.holds Tryz.pinned (OpenSpec.ofChange segmentCutsSpec)

/-- ITS FALSE NEIGHBOUR: 'it returns false'. Refute it at one input. -/
def segmentCutsWrong : ChangeSpec := { name := "segmentCuts", fn := fun _ => fun
  | [d1, d2] => { results := [.lit (.bool false)], args := [d1, d2] }
  | _ => none }
def SegmentCutsWrongFalsely : Prop := segmentCutsRow.holds Tryz.pinned (OpenSpec.ofChange segmentCutsWrong)

/- THE SECOND FORM. 'bulk': how many values and letters a reading holds, each counted each time it is reached (what is shared counts as often as it is met; a slice's spare places count too). A statement '..UptoSaid' is the law's where the arguments, and the package variables that the reading takes, are together of bulk at most 1048576: NARROWER than '..Said'. Prove '..Said' where nothing that the law and all that it calls make is longer than what came in: it says more and counts as full. Else prove '..UptoSaid'. A law counts once. -/
mutual
def uptoBulk {H : Type} : DataW H → Nat
  | .lit (.string bytes) => bytes.length + 1
  | .lit _ => 1
  | .nil => 1
  | .ptr d => uptoBulk d + 1
  | .slice elems spare => uptoBulkAll elems + uptoBulkAll spare + 1
  | .agg parts => uptoBulkAll parts + 1
  | .iface _ d => uptoBulk d + 1
  | .map entries => uptoBulkEntries entries + 1
  | .held _ => 1
def uptoBulkAll {H : Type} : List (DataW H) → Nat
  | [] => 0
  | d :: r => uptoBulk d + uptoBulkAll r
def uptoBulkEntries {H : Type} : List (Lit × DataW H) → Nat
  | [] => 0
  | x :: r => uptoBulkEntry x + uptoBulkEntries r
def uptoBulkEntry {H : Type} : Lit × DataW H → Nat
  | (.string bytes, d) => bytes.length + uptoBulk d + 1
  | (_, d) => uptoBulk d + 1
 end
def uptoSmall : (H : Type) → List (DataW H) → Bool := fun _ ds => decide (uptoBulkAll ds ≤ 1048576)
def OpenSpec.upto (s : _root_.Go.ChangeSpec) : _root_.Go.OpenSpec := { _root_.Go.OpenSpec.ofChange s with cond := some uptoSmall }

/-- 'narrowslaw08.SegmentCrosses', WHERE WHAT IT READS IS OF BULK AT MOST 1048576: true; the input reads as it did. -/
def segmentCrossesUptoRow : OpenClaim := { program := "ytfdealobplcboaagreat", sum := "35b4a68f2f547dadb53ae68fb563c959d119dc1e53d25c8186a1ebf6bb876e80", func := "narrows/narrowslaw08.SegmentCrosses", spec := "segmentCrosses", inPlace := ["internal/abi.NoEscape"], unfollowed := true, recurses := true, named := ["math/bits.overflowError"], apart := false, narrowed := true }
def SegmentCrossesUptoSaid : Prop := segmentCrossesUptoRow.holds Tryz.pinned (OpenSpec.upto segmentCrossesSpec)

/-- 'narrowslaw08.SegmentCommon', WHERE WHAT IT READS IS OF BULK AT MOST 1048576: true; the input reads as it did. -/
def segmentCommonUptoRow : OpenClaim := { program := "ytfdealobplcboaagreat", sum := "35b4a68f2f547dadb53ae68fb563c959d119dc1e53d25c8186a1ebf6bb876e80", func := "narrows/narrowslaw08.SegmentCommon", spec := "segmentCommon", inPlace := ["internal/abi.NoEscape"], unfollowed := true, recurses := true, named := ["math/bits.overflowError"], apart := false, narrowed := true }
def SegmentCommonUptoSaid : Prop := segmentCommonUptoRow.holds Tryz.pinned (OpenSpec.upto segmentCommonSpec)

/-- 'narrowslaw08.SegmentHeights', WHERE WHAT IT READS IS OF BULK AT MOST 1048576: true; the input reads as it did. -/
def segmentHeightsUptoRow : OpenClaim := { program := "ytfdealobplcboaagreat", sum := "35b4a68f2f547dadb53ae68fb563c959d119dc1e53d25c8186a1ebf6bb876e80", func := "narrows/narrowslaw08.SegmentHeights", spec := "segmentHeights", inPlace := ["internal/abi.NoEscape"], unfollowed := true, recurses := true, named := ["math/bits.overflowError"], apart := false, narrowed := true }
def SegmentHeightsUptoSaid : Prop := segmentHeightsUptoRow.holds Tryz.pinned (OpenSpec.upto segmentHeightsSpec)

/-- 'narrowslaw08.SegmentNearest', WHERE WHAT IT READS IS OF BULK AT MOST 1048576: true; the input reads as it did. -/
def segmentNearestUptoRow : OpenClaim := { program := "ytfdealobplcboaagreat", sum := "35b4a68f2f547dadb53ae68fb563c959d119dc1e53d25c8186a1ebf6bb876e80", func := "narrows/narrowslaw08.SegmentNearest", spec := "segmentNearest", inPlace := ["internal/abi.NoEscape"], unfollowed := true, recurses := true, named := ["math/bits.overflowError"], apart := false, narrowed := true }
def SegmentNearestUptoSaid : Prop := segmentNearestUptoRow.holds Tryz.pinned (OpenSpec.upto segmentNearestSpec)

/-- 'narrowslaw08.SegmentPairs', WHERE WHAT IT READS IS OF BULK AT MOST 1048576: true; the input reads as it did. -/
def segmentPairsUptoRow : OpenClaim := { program := "ytfdealobplcboaagreat", sum := "35b4a68f2f547dadb53ae68fb563c959d119dc1e53d25c8186a1ebf6bb876e80", func := "narrows/narrowslaw08.SegmentPairs", spec := "segmentPairs", inPlace := ["internal/abi.NoEscape"], unfollowed := true, recurses := true, named := ["math/bits.overflowError"], apart := false, narrowed := true }
def SegmentPairsUptoSaid : Prop := segmentPairsUptoRow.holds Tryz.pinned (OpenSpec.upto segmentPairsSpec)

/-- 'narrowslaw08.SegmentClips', WHERE WHAT IT READS IS OF BULK AT MOST 1048576: true; the input reads as it did. -/
def segmentClipsUptoRow : OpenClaim := { program := "ytfdealobplcboaagreat", sum := "35b4a68f2f547dadb53ae68fb563c959d119dc1e53d25c8186a1ebf6bb876e80", func := "narrows/narrowslaw08.SegmentClips", spec := "segmentClips", inPlace := ["internal/abi.NoEscape"], unfollowed := true, recurses := true, named := ["math/bits.overflowError"], apart := false, narrowed := true }
def SegmentClipsUptoSaid : Prop := segmentClipsUptoRow.holds Tryz.pinned (OpenSpec.upto segmentClipsSpec)

/-- 'narrowslaw10.RingChecks', WHERE WHAT IT READS IS OF BULK AT MOST 1048576: true; the input reads as it did. -/
def ringChecksUptoRow : OpenClaim := { program := "ytfdealobplcboaagreat", sum := "35b4a68f2f547dadb53ae68fb563c959d119dc1e53d25c8186a1ebf6bb876e80", func := "narrows/narrowslaw10.RingChecks", spec := "ringChecks", unfollowed := true, recurses := true, named := ["math/bits.overflowError"], apart := false, narrowed := true }
def RingChecksUptoSaid : Prop := ringChecksUptoRow.holds Tryz.pinned (OpenSpec.upto ringChecksSpec)

/-- 'narrowslaw10.RingAreas', WHERE WHAT IT READS IS OF BULK AT MOST 1048576: true; the input reads as it did. -/
def ringAreasUptoRow : OpenClaim := { program := "ytfdealobplcboaagreat", sum := "35b4a68f2f547dadb53ae68fb563c959d119dc1e53d25c8186a1ebf6bb876e80", func := "narrows/narrowslaw10.RingAreas", spec := "ringAreas", unfollowed := true, recurses := true, named := ["math/bits.overflowError"], apart := false, narrowed := true }
def RingAreasUptoSaid : Prop := ringAreasUptoRow.holds Tryz.pinned (OpenSpec.upto ringAreasSpec)

/-- 'narrowslaw10.RingSides', WHERE WHAT IT READS IS OF BULK AT MOST 1048576: true; the input reads as it did. -/
def ringSidesUptoRow : OpenClaim := { program := "ytfdealobplcboaagreat", sum := "35b4a68f2f547dadb53ae68fb563c959d119dc1e53d25c8186a1ebf6bb876e80", func := "narrows/narrowslaw10.RingSides", spec := "ringSides", unfollowed := true, recurses := true, named := ["math/bits.overflowError"], apart := false, narrowed := true }
def RingSidesUptoSaid : Prop := ringSidesUptoRow.holds Tryz.pinned (OpenSpec.upto ringSidesSpec)

/-- 'narrowslaw10.RingParities', WHERE WHAT IT READS IS OF BULK AT MOST 1048576: true; the input reads as it did. -/
def ringParitiesUptoRow : OpenClaim := { program := "ytfdealobplcboaagreat", sum := "35b4a68f2f547dadb53ae68fb563c959d119dc1e53d25c8186a1ebf6bb876e80", func := "narrows/narrowslaw10.RingParities", spec := "ringParities", unfollowed := true, recurses := true, named := ["math/bits.overflowError"], apart := false, narrowed := true }
def RingParitiesUptoSaid : Prop := ringParitiesUptoRow.holds Tryz.pinned (OpenSpec.upto ringParitiesSpec)

/-- 'narrowslaw08.SegmentParts', WHERE WHAT IT READS IS OF BULK AT MOST 1048576: true; the input reads as it did. -/
def segmentPartsUptoRow : OpenClaim := { program := "ytfdealobplcboaagreat", sum := "35b4a68f2f547dadb53ae68fb563c959d119dc1e53d25c8186a1ebf6bb876e80", func := "narrows/narrowslaw08.SegmentParts", spec := "segmentParts", inPlace := ["internal/abi.NoEscape"], unfollowed := true, recurses := true, named := ["math/bits.overflowError"], apart := false, narrowed := true }
def SegmentPartsUptoSaid : Prop := segmentPartsUptoRow.holds Tryz.pinned (OpenSpec.upto segmentPartsSpec)

/-- 'narrowslaw08.SegmentCuts', WHERE WHAT IT READS IS OF BULK AT MOST 1048576: true; the input reads as it did. -/
def segmentCutsUptoRow : OpenClaim := { program := "ytfdealobplcboaagreat", sum := "35b4a68f2f547dadb53ae68fb563c959d119dc1e53d25c8186a1ebf6bb876e80", func := "narrows/narrowslaw08.SegmentCuts", spec := "segmentCuts", inPlace := ["internal/abi.NoEscape"], unfollowed := true, recurses := true, named := ["math/bits.overflowError"], apart := false, narrowed := true }
def SegmentCutsUptoSaid : Prop := segmentCutsUptoRow.holds Tryz.pinned (OpenSpec.upto segmentCutsSpec)

end Rows
end Go.Proofs.YtfdealobplcboaaGreat
