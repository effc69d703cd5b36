/-
  No cell of these rows narrows 'for every input' (looked for: loops, veiled, ifaces, maps, wideKeys, modest, calm, conditions, laid).
  DERIVED. THE GIVEN ROWS OF THIS SEAT. 12 by the template 'for every input the law returns true; each argument reads behind the call as it read before'; 0 by the template 'total and deterministic' (their statements: YtkipmmiiackdaaaGreatTotals.lean).
  GIVEN WITH THE SEED: the statements are not yours to turn. If you find one false, say at which input.
  Laid BY PROGRAM, IN A SANDBOX (cutbox-rows.mjs): the forced cells as the released guide's own fill.sh prints them over the translation fa1dcb7b867818ed… (all of the seat's roots in one cut). By AI agents, Wed Nov 11 2026. No macro, syntax, notation, axiom, sorry.
-/
import Derived.Test.YtkipmmiiackdaaaGreatChecked
import GoSem.Claim
import GoSem.ClaimJoined
import GoSem.ClaimMapViews
import Derived.JoinedTies
import Derived.KernelRfl
namespace Go.Proofs.YtkipmmiiackdaaaGreat
/- THE CELL 'sum', in the pinned program and in every row, IS THE sha256 OF THE DUMP (.gsa) THAT YtkipmmiiackdaaaGreatProg.lean LOADS. Nothing in Lean hashes anything: it is a label: what it is worth is what the hold of that sum in a sandbox is worth. -/
noncomputable def Tryz.pinned : Pinned := { name := "ytkipmmiiackdaaagreat", sum := "fa1dcb7b867818ed0e3105fb4277a032ce415bd017a686556b9fc5a153c1b394", checked := Tryz.checked }
namespace Rows
def none {H : Type} : Left H := { results := [], args := [] }

/-- 'narrowslaw10.RingChecks': WHATEVER THE INPUT: true; the input reads as it did. -/
def ringChecksSpec : ChangeSpec := { name := "ringChecks", fn := fun _ => fun
  | [d1, d2] => { results := [.lit (.bool true)], args := [d1, d2] }
  | _ => none }
def ringChecksRow : OpenClaim := { program := "ytkipmmiiackdaaagreat", sum := "fa1dcb7b867818ed0e3105fb4277a032ce415bd017a686556b9fc5a153c1b394", func := "narrows/narrowslaw10.RingChecks", spec := "ringChecks", unfollowed := true, recurses := true, named := ["math/bits.overflowError"], plainKeys := false, apart := false }
def RingChecksSaid : Prop := ringChecksRow.holds Tryz.pinned (OpenSpec.ofChange ringChecksSpec)

/-- ITS FALSE NEIGHBOUR: 'it returns false'. Refute it at one input. -/
def ringChecksWrong : ChangeSpec := { name := "ringChecks", fn := fun _ => fun
  | [d1, d2] => { results := [.lit (.bool false)], args := [d1, d2] }
  | _ => none }
def RingChecksWrongFalsely : Prop := ringChecksRow.holds Tryz.pinned (OpenSpec.ofChange ringChecksWrong)

/-- 'narrowslaw10.RingCentroids': WHATEVER THE INPUT: true; the input reads as it did. -/
def ringCentroidsSpec : ChangeSpec := { name := "ringCentroids", fn := fun _ => fun
  | [d1, d2, d3] => { results := [.lit (.bool true)], args := [d1, d2, d3] }
  | _ => none }
def ringCentroidsRow : OpenClaim := { program := "ytkipmmiiackdaaagreat", sum := "fa1dcb7b867818ed0e3105fb4277a032ce415bd017a686556b9fc5a153c1b394", func := "narrows/narrowslaw10.RingCentroids", spec := "ringCentroids", unfollowed := true, recurses := true, named := ["math/bits.overflowError"], plainKeys := false, apart := false }
def RingCentroidsSaid : Prop := ringCentroidsRow.holds Tryz.pinned (OpenSpec.ofChange ringCentroidsSpec)

/-- ITS FALSE NEIGHBOUR: 'it returns false'. Refute it at one input. -/
def ringCentroidsWrong : ChangeSpec := { name := "ringCentroids", fn := fun _ => fun
  | [d1, d2, d3] => { results := [.lit (.bool false)], args := [d1, d2, d3] }
  | _ => none }
def RingCentroidsWrongFalsely : Prop := ringCentroidsRow.holds Tryz.pinned (OpenSpec.ofChange ringCentroidsWrong)

/-- 'narrowslaw10.RingSides': WHATEVER THE INPUT: true; the input reads as it did. -/
def ringSidesSpec : ChangeSpec := { name := "ringSides", fn := fun _ => fun
  | [d1, d2] => { results := [.lit (.bool true)], args := [d1, d2] }
  | _ => none }
def ringSidesRow : OpenClaim := { program := "ytkipmmiiackdaaagreat", sum := "fa1dcb7b867818ed0e3105fb4277a032ce415bd017a686556b9fc5a153c1b394", func := "narrows/narrowslaw10.RingSides", spec := "ringSides", unfollowed := true, recurses := true, named := ["math/bits.overflowError"], plainKeys := false, apart := false }
def RingSidesSaid : Prop := ringSidesRow.holds Tryz.pinned (OpenSpec.ofChange ringSidesSpec)

/-- ITS FALSE NEIGHBOUR: 'it returns false'. Refute it at one input. -/
def ringSidesWrong : ChangeSpec := { name := "ringSides", fn := fun _ => fun
  | [d1, d2] => { results := [.lit (.bool false)], args := [d1, d2] }
  | _ => none }
def RingSidesWrongFalsely : Prop := ringSidesRow.holds Tryz.pinned (OpenSpec.ofChange ringSidesWrong)

/-- 'narrowslaw10.RingInner': WHATEVER THE INPUT: true; the input reads as it did. -/
def ringInnerSpec : ChangeSpec := { name := "ringInner", fn := fun _ => fun
  | [d1, d2] => { results := [.lit (.bool true)], args := [d1, d2] }
  | _ => none }
def ringInnerRow : OpenClaim := { program := "ytkipmmiiackdaaagreat", sum := "fa1dcb7b867818ed0e3105fb4277a032ce415bd017a686556b9fc5a153c1b394", func := "narrows/narrowslaw10.RingInner", spec := "ringInner", unfollowed := true, recurses := true, named := ["math/bits.overflowError"], plainKeys := false, apart := false }
def RingInnerSaid : Prop := ringInnerRow.holds Tryz.pinned (OpenSpec.ofChange ringInnerSpec)

/-- ITS FALSE NEIGHBOUR: 'it returns false'. Refute it at one input. -/
def ringInnerWrong : ChangeSpec := { name := "ringInner", fn := fun _ => fun
  | [d1, d2] => { results := [.lit (.bool false)], args := [d1, d2] }
  | _ => none }
def RingInnerWrongFalsely : Prop := ringInnerRow.holds Tryz.pinned (OpenSpec.ofChange ringInnerWrong)

/-- 'narrowslaw10.RingCanonical': WHATEVER THE INPUT: true; the input reads as it did. -/
def ringCanonicalSpec : ChangeSpec := { name := "ringCanonical", fn := fun _ => fun
  | [d1, d2, d3, d4] => { results := [.lit (.bool true)], args := [d1, d2, d3, d4] }
  | _ => none }
def ringCanonicalRow : OpenClaim := { program := "ytkipmmiiackdaaagreat", sum := "fa1dcb7b867818ed0e3105fb4277a032ce415bd017a686556b9fc5a153c1b394", func := "narrows/narrowslaw10.RingCanonical", spec := "ringCanonical", inPlace := ["slices.overlaps[narrows/api.Point]"], unfollowed := true, recurses := true, named := ["math/bits.overflowError"], plainKeys := false, apart := false }
def RingCanonicalSaid : Prop := ringCanonicalRow.holds Tryz.pinned (OpenSpec.ofChange ringCanonicalSpec)

/-- ITS FALSE NEIGHBOUR: 'it returns false'. Refute it at one input. -/
def ringCanonicalWrong : ChangeSpec := { name := "ringCanonical", fn := fun _ => fun
  | [d1, d2, d3, d4] => { results := [.lit (.bool false)], args := [d1, d2, d3, d4] }
  | _ => none }
def RingCanonicalWrongFalsely : Prop := ringCanonicalRow.holds Tryz.pinned (OpenSpec.ofChange ringCanonicalWrong)

/-- 'narrowslaw03.RadicalNormal': WHATEVER THE INPUT: true; the input reads as it did. -/
def radicalNormalSpec : ChangeSpec := { name := "radicalNormal", fn := fun _ => fun
  | [d] => { results := [.lit (.bool true)], args := [d] }
  | _ => none }
def radicalNormalRow : OpenClaim := { program := "ytkipmmiiackdaaagreat", sum := "fa1dcb7b867818ed0e3105fb4277a032ce415bd017a686556b9fc5a153c1b394", func := "narrows/narrowslaw03.RadicalNormal", spec := "radicalNormal", inPlace := ["internal/abi.NoEscape"], unfollowed := true, recurses := true, named := ["math/bits.overflowError"], plainKeys := false, apart := false }
def RadicalNormalSaid : Prop := radicalNormalRow.holds Tryz.pinned (OpenSpec.ofChange radicalNormalSpec)

/-- ITS FALSE NEIGHBOUR: 'it returns false'. Refute it at one input. -/
def radicalNormalWrong : ChangeSpec := { name := "radicalNormal", fn := fun _ => fun
  | [d] => { results := [.lit (.bool false)], args := [d] }
  | _ => none }
def RadicalNormalWrongFalsely : Prop := radicalNormalRow.holds Tryz.pinned (OpenSpec.ofChange radicalNormalWrong)

/-- 'narrowslaw03.RadicalBounds': WHATEVER THE INPUT: true; the input reads as it did. -/
def radicalBoundsSpec : ChangeSpec := { name := "radicalBounds", fn := fun _ => fun
  | [d1, d2] => { results := [.lit (.bool true)], args := [d1, d2] }
  | _ => none }
def radicalBoundsRow : OpenClaim := { program := "ytkipmmiiackdaaagreat", sum := "fa1dcb7b867818ed0e3105fb4277a032ce415bd017a686556b9fc5a153c1b394", func := "narrows/narrowslaw03.RadicalBounds", spec := "radicalBounds", inPlace := ["internal/abi.NoEscape"], unfollowed := true, recurses := true, named := ["math/bits.overflowError"], plainKeys := false, apart := false }
def RadicalBoundsSaid : Prop := radicalBoundsRow.holds Tryz.pinned (OpenSpec.ofChange radicalBoundsSpec)

/-- ITS FALSE NEIGHBOUR: 'it returns false'. Refute it at one input. -/
def radicalBoundsWrong : ChangeSpec := { name := "radicalBounds", fn := fun _ => fun
  | [d1, d2] => { results := [.lit (.bool false)], args := [d1, d2] }
  | _ => none }
def RadicalBoundsWrongFalsely : Prop := radicalBoundsRow.holds Tryz.pinned (OpenSpec.ofChange radicalBoundsWrong)

/-- 'narrowslaw03.RadicalTexts': WHATEVER THE INPUT: true; the input reads as it did. -/
def radicalTextsSpec : ChangeSpec := { name := "radicalTexts", fn := fun _ => fun
  | [d1, d2] => { results := [.lit (.bool true)], args := [d1, d2] }
  | _ => none }
def radicalTextsRow : OpenClaim := { program := "ytkipmmiiackdaaagreat", sum := "fa1dcb7b867818ed0e3105fb4277a032ce415bd017a686556b9fc5a153c1b394", func := "narrows/narrowslaw03.RadicalTexts", spec := "radicalTexts", inPlace := ["internal/abi.NoEscape"], unfollowed := true, recurses := true, named := ["math/bits.overflowError"], plainKeys := false, apart := false }
def RadicalTextsSaid : Prop := radicalTextsRow.holds Tryz.pinned (OpenSpec.ofChange radicalTextsSpec)

/-- ITS FALSE NEIGHBOUR: 'it returns false'. Refute it at one input. -/
def radicalTextsWrong : ChangeSpec := { name := "radicalTexts", fn := fun _ => fun
  | [d1, d2] => { results := [.lit (.bool false)], args := [d1, d2] }
  | _ => none }
def RadicalTextsWrongFalsely : Prop := radicalTextsRow.holds Tryz.pinned (OpenSpec.ofChange radicalTextsWrong)

/-- 'narrowslaw03.RadicalArithmetic': WHATEVER THE INPUT: true; the input reads as it did. -/
def radicalArithmeticSpec : ChangeSpec := { name := "radicalArithmetic", fn := fun _ => fun
  | [d1, d2, d3] => { results := [.lit (.bool true)], args := [d1, d2, d3] }
  | _ => none }
def radicalArithmeticRow : OpenClaim := { program := "ytkipmmiiackdaaagreat", sum := "fa1dcb7b867818ed0e3105fb4277a032ce415bd017a686556b9fc5a153c1b394", func := "narrows/narrowslaw03.RadicalArithmetic", spec := "radicalArithmetic", inPlace := ["internal/abi.NoEscape"], unfollowed := true, recurses := true, named := ["math/bits.overflowError"], plainKeys := false, apart := false }
def RadicalArithmeticSaid : Prop := radicalArithmeticRow.holds Tryz.pinned (OpenSpec.ofChange radicalArithmeticSpec)

/-- ITS FALSE NEIGHBOUR: 'it returns false'. Refute it at one input. -/
def radicalArithmeticWrong : ChangeSpec := { name := "radicalArithmetic", fn := fun _ => fun
  | [d1, d2, d3] => { results := [.lit (.bool false)], args := [d1, d2, d3] }
  | _ => none }
def RadicalArithmeticWrongFalsely : Prop := radicalArithmeticRow.holds Tryz.pinned (OpenSpec.ofChange radicalArithmeticWrong)

/-- 'narrowslaw15.SweepPairs': WHATEVER THE INPUT: true; the input reads as it did. -/
def sweepPairsSpec : ChangeSpec := { name := "sweepPairs", fn := fun _ => fun
  | [d] => { results := [.lit (.bool true)], args := [d] }
  | _ => none }
def sweepPairsRow : OpenClaim := { program := "ytkipmmiiackdaaagreat", sum := "fa1dcb7b867818ed0e3105fb4277a032ce415bd017a686556b9fc5a153c1b394", func := "narrows/narrowslaw15.SweepPairs", spec := "sweepPairs", unfollowed := true, recurses := true, named := ["math/bits.overflowError"], plainKeys := false, apart := false }
def SweepPairsSaid : Prop := sweepPairsRow.holds Tryz.pinned (OpenSpec.ofChange sweepPairsSpec)

/-- ITS FALSE NEIGHBOUR: 'it returns false'. Refute it at one input. -/
def sweepPairsWrong : ChangeSpec := { name := "sweepPairs", fn := fun _ => fun
  | [d] => { results := [.lit (.bool false)], args := [d] }
  | _ => none }
def SweepPairsWrongFalsely : Prop := sweepPairsRow.holds Tryz.pinned (OpenSpec.ofChange sweepPairsWrong)

/-- 'narrowslaw10.RingMeasures': WHATEVER THE INPUT: true; the input reads as it did. -/
def ringMeasuresSpec : ChangeSpec := { name := "ringMeasures", fn := fun _ => fun
  | [d] => { results := [.lit (.bool true)], args := [d] }
  | _ => none }
def ringMeasuresRow : OpenClaim := { program := "ytkipmmiiackdaaagreat", sum := "fa1dcb7b867818ed0e3105fb4277a032ce415bd017a686556b9fc5a153c1b394", func := "narrows/narrowslaw10.RingMeasures", spec := "ringMeasures", unfollowed := true, recurses := true, named := ["math/bits.overflowError"], plainKeys := false, apart := false }
def RingMeasuresSaid : Prop := ringMeasuresRow.holds Tryz.pinned (OpenSpec.ofChange ringMeasuresSpec)

/-- ITS FALSE NEIGHBOUR: 'it returns false'. Refute it at one input. -/
def ringMeasuresWrong : ChangeSpec := { name := "ringMeasures", fn := fun _ => fun
  | [d] => { results := [.lit (.bool false)], args := [d] }
  | _ => none }
def RingMeasuresWrongFalsely : Prop := ringMeasuresRow.holds Tryz.pinned (OpenSpec.ofChange ringMeasuresWrong)

/-- 'narrowslaw10.RingLengths': WHATEVER THE INPUT: true; the input reads as it did. -/
def ringLengthsSpec : ChangeSpec := { name := "ringLengths", fn := fun _ => fun
  | [d1, d2, d3] => { results := [.lit (.bool true)], args := [d1, d2, d3] }
  | _ => none }
def ringLengthsRow : OpenClaim := { program := "ytkipmmiiackdaaagreat", sum := "fa1dcb7b867818ed0e3105fb4277a032ce415bd017a686556b9fc5a153c1b394", func := "narrows/narrowslaw10.RingLengths", spec := "ringLengths", unfollowed := true, recurses := true, named := ["math/bits.overflowError"], plainKeys := false, apart := false }
def RingLengthsSaid : Prop := ringLengthsRow.holds Tryz.pinned (OpenSpec.ofChange ringLengthsSpec)

/-- ITS FALSE NEIGHBOUR: 'it returns false'. Refute it at one input. -/
def ringLengthsWrong : ChangeSpec := { name := "ringLengths", fn := fun _ => fun
  | [d1, d2, d3] => { results := [.lit (.bool false)], args := [d1, d2, d3] }
  | _ => none }
def RingLengthsWrongFalsely : Prop := ringLengthsRow.holds Tryz.pinned (OpenSpec.ofChange ringLengthsWrong)

/- THE SECOND FORM. 'bulk': how many values and letters a reading holds, each counted each time it is reached (what is shared counts as often as it is met; a slice's spare places count too). A statement '..UptoSaid' is the law's where the arguments, and the package variables that the reading takes, are together of bulk at most 1048576: NARROWER than '..Said'. Prove '..Said' where nothing that the law and all that it calls make is longer than what came in: it says more and counts as full. Else prove '..UptoSaid'. A law counts once. -/
mutual
def uptoBulk {H : Type} : DataW H → Nat
  | .lit (.string bytes) => bytes.length + 1
  | .lit _ => 1
  | .nil => 1
  | .ptr d => uptoBulk d + 1
  | .slice elems spare => uptoBulkAll elems + uptoBulkAll spare + 1
  | .agg parts => uptoBulkAll parts + 1
  | .iface _ d => uptoBulk d + 1
  | .map entries => uptoBulkEntries entries + 1
  | .held _ => 1
def uptoBulkAll {H : Type} : List (DataW H) → Nat
  | [] => 0
  | d :: r => uptoBulk d + uptoBulkAll r
def uptoBulkEntries {H : Type} : List (Lit × DataW H) → Nat
  | [] => 0
  | x :: r => uptoBulkEntry x + uptoBulkEntries r
def uptoBulkEntry {H : Type} : Lit × DataW H → Nat
  | (.string bytes, d) => bytes.length + uptoBulk d + 1
  | (_, d) => uptoBulk d + 1
 end
def uptoSmall : (H : Type) → List (DataW H) → Bool := fun _ ds => decide (uptoBulkAll ds ≤ 1048576)
def OpenSpec.upto (s : _root_.Go.ChangeSpec) : _root_.Go.OpenSpec := { _root_.Go.OpenSpec.ofChange s with cond := some uptoSmall }

/-- 'narrowslaw10.RingChecks', WHERE WHAT IT READS IS OF BULK AT MOST 1048576: true; the input reads as it did. -/
def ringChecksUptoRow : OpenClaim := { program := "ytkipmmiiackdaaagreat", sum := "fa1dcb7b867818ed0e3105fb4277a032ce415bd017a686556b9fc5a153c1b394", func := "narrows/narrowslaw10.RingChecks", spec := "ringChecks", unfollowed := true, recurses := true, named := ["math/bits.overflowError"], plainKeys := false, apart := false, narrowed := true }
def RingChecksUptoSaid : Prop := ringChecksUptoRow.holds Tryz.pinned (OpenSpec.upto ringChecksSpec)

/-- 'narrowslaw10.RingCentroids', WHERE WHAT IT READS IS OF BULK AT MOST 1048576: true; the input reads as it did. -/
def ringCentroidsUptoRow : OpenClaim := { program := "ytkipmmiiackdaaagreat", sum := "fa1dcb7b867818ed0e3105fb4277a032ce415bd017a686556b9fc5a153c1b394", func := "narrows/narrowslaw10.RingCentroids", spec := "ringCentroids", unfollowed := true, recurses := true, named := ["math/bits.overflowError"], plainKeys := false, apart := false, narrowed := true }
def RingCentroidsUptoSaid : Prop := ringCentroidsUptoRow.holds Tryz.pinned (OpenSpec.upto ringCentroidsSpec)

/-- 'narrowslaw10.RingSides', WHERE WHAT IT READS IS OF BULK AT MOST 1048576: true; the input reads as it did. -/
def ringSidesUptoRow : OpenClaim := { program := "ytkipmmiiackdaaagreat", sum := "fa1dcb7b867818ed0e3105fb4277a032ce415bd017a686556b9fc5a153c1b394", func := "narrows/narrowslaw10.RingSides", spec := "ringSides", unfollowed := true, recurses := true, named := ["math/bits.overflowError"], plainKeys := false, apart := false, narrowed := true }
def RingSidesUptoSaid : Prop := ringSidesUptoRow.holds Tryz.pinned (OpenSpec.upto ringSidesSpec)

/-- 'narrowslaw10.RingInner', WHERE WHAT IT READS IS OF BULK AT MOST 1048576: true; the input reads as it did. -/
def ringInnerUptoRow : OpenClaim := { program := "ytkipmmiiackdaaagreat", sum := "fa1dcb7b867818ed0e3105fb4277a032ce415bd017a686556b9fc5a153c1b394", func := "narrows/narrowslaw10.RingInner", spec := "ringInner", unfollowed := true, recurses := true, named := ["math/bits.overflowError"], plainKeys := false, apart := false, narrowed := true }
def RingInnerUptoSaid : Prop := ringInnerUptoRow.holds Tryz.pinned (OpenSpec.upto ringInnerSpec)

/-- 'narrowslaw10.RingCanonical', WHERE WHAT IT READS IS OF BULK AT MOST 1048576: true; the input reads as it did. -/
def ringCanonicalUptoRow : OpenClaim := { program := "ytkipmmiiackdaaagreat", sum := "fa1dcb7b867818ed0e3105fb4277a032ce415bd017a686556b9fc5a153c1b394", func := "narrows/narrowslaw10.RingCanonical", spec := "ringCanonical", inPlace := ["slices.overlaps[narrows/api.Point]"], unfollowed := true, recurses := true, named := ["math/bits.overflowError"], plainKeys := false, apart := false, narrowed := true }
def RingCanonicalUptoSaid : Prop := ringCanonicalUptoRow.holds Tryz.pinned (OpenSpec.upto ringCanonicalSpec)

/-- 'narrowslaw03.RadicalNormal', WHERE WHAT IT READS IS OF BULK AT MOST 1048576: true; the input reads as it did. -/
def radicalNormalUptoRow : OpenClaim := { program := "ytkipmmiiackdaaagreat", sum := "fa1dcb7b867818ed0e3105fb4277a032ce415bd017a686556b9fc5a153c1b394", func := "narrows/narrowslaw03.RadicalNormal", spec := "radicalNormal", inPlace := ["internal/abi.NoEscape"], unfollowed := true, recurses := true, named := ["math/bits.overflowError"], plainKeys := false, apart := false, narrowed := true }
def RadicalNormalUptoSaid : Prop := radicalNormalUptoRow.holds Tryz.pinned (OpenSpec.upto radicalNormalSpec)

/-- 'narrowslaw03.RadicalBounds', WHERE WHAT IT READS IS OF BULK AT MOST 1048576: true; the input reads as it did. -/
def radicalBoundsUptoRow : OpenClaim := { program := "ytkipmmiiackdaaagreat", sum := "fa1dcb7b867818ed0e3105fb4277a032ce415bd017a686556b9fc5a153c1b394", func := "narrows/narrowslaw03.RadicalBounds", spec := "radicalBounds", inPlace := ["internal/abi.NoEscape"], unfollowed := true, recurses := true, named := ["math/bits.overflowError"], plainKeys := false, apart := false, narrowed := true }
def RadicalBoundsUptoSaid : Prop := radicalBoundsUptoRow.holds Tryz.pinned (OpenSpec.upto radicalBoundsSpec)

/-- 'narrowslaw03.RadicalTexts', WHERE WHAT IT READS IS OF BULK AT MOST 1048576: true; the input reads as it did. -/
def radicalTextsUptoRow : OpenClaim := { program := "ytkipmmiiackdaaagreat", sum := "fa1dcb7b867818ed0e3105fb4277a032ce415bd017a686556b9fc5a153c1b394", func := "narrows/narrowslaw03.RadicalTexts", spec := "radicalTexts", inPlace := ["internal/abi.NoEscape"], unfollowed := true, recurses := true, named := ["math/bits.overflowError"], plainKeys := false, apart := false, narrowed := true }
def RadicalTextsUptoSaid : Prop := radicalTextsUptoRow.holds Tryz.pinned (OpenSpec.upto radicalTextsSpec)

/-- 'narrowslaw03.RadicalArithmetic', WHERE WHAT IT READS IS OF BULK AT MOST 1048576: true; the input reads as it did. -/
def radicalArithmeticUptoRow : OpenClaim := { program := "ytkipmmiiackdaaagreat", sum := "fa1dcb7b867818ed0e3105fb4277a032ce415bd017a686556b9fc5a153c1b394", func := "narrows/narrowslaw03.RadicalArithmetic", spec := "radicalArithmetic", inPlace := ["internal/abi.NoEscape"], unfollowed := true, recurses := true, named := ["math/bits.overflowError"], plainKeys := false, apart := false, narrowed := true }
def RadicalArithmeticUptoSaid : Prop := radicalArithmeticUptoRow.holds Tryz.pinned (OpenSpec.upto radicalArithmeticSpec)

/-- 'narrowslaw15.SweepPairs', WHERE WHAT IT READS IS OF BULK AT MOST 1048576: true; the input reads as it did. -/
def sweepPairsUptoRow : OpenClaim := { program := "ytkipmmiiackdaaagreat", sum := "fa1dcb7b867818ed0e3105fb4277a032ce415bd017a686556b9fc5a153c1b394", func := "narrows/narrowslaw15.SweepPairs", spec := "sweepPairs", unfollowed := true, recurses := true, named := ["math/bits.overflowError"], plainKeys := false, apart := false, narrowed := true }
def SweepPairsUptoSaid : Prop := sweepPairsUptoRow.holds Tryz.pinned (OpenSpec.upto sweepPairsSpec)

/-- 'narrowslaw10.RingMeasures', WHERE WHAT IT READS IS OF BULK AT MOST 1048576: true; the input reads as it did. -/
def ringMeasuresUptoRow : OpenClaim := { program := "ytkipmmiiackdaaagreat", sum := "fa1dcb7b867818ed0e3105fb4277a032ce415bd017a686556b9fc5a153c1b394", func := "narrows/narrowslaw10.RingMeasures", spec := "ringMeasures", unfollowed := true, recurses := true, named := ["math/bits.overflowError"], plainKeys := false, apart := false, narrowed := true }
def RingMeasuresUptoSaid : Prop := ringMeasuresUptoRow.holds Tryz.pinned (OpenSpec.upto ringMeasuresSpec)

/-- 'narrowslaw10.RingLengths', WHERE WHAT IT READS IS OF BULK AT MOST 1048576: true; the input reads as it did. -/
def ringLengthsUptoRow : OpenClaim := { program := "ytkipmmiiackdaaagreat", sum := "fa1dcb7b867818ed0e3105fb4277a032ce415bd017a686556b9fc5a153c1b394", func := "narrows/narrowslaw10.RingLengths", spec := "ringLengths", unfollowed := true, recurses := true, named := ["math/bits.overflowError"], plainKeys := false, apart := false, narrowed := true }
def RingLengthsUptoSaid : Prop := ringLengthsUptoRow.holds Tryz.pinned (OpenSpec.upto ringLengthsSpec)

end Rows
end Go.Proofs.YtkipmmiiackdaaaGreat
