/- Part 3 of what the statement needs: an executor of Go texts, arithmetic, and contracts of the functions that are called. -/
import Derived.Test.YtfdealobplcboaaGreatCc2
import Derived.WalkKit
import Derived.ProofKit
import Derived.OpenShut
import Derived.ShutString
import Derived.ChangeOld
import Derived.Below
import Derived.SizedLaws
import Derived.Carry
/- Arguments of a statement as they come: boxes. -/
set_option linter.unusedVariables false
set_option linter.unusedSimpArgs false
set_option maxRecDepth 100000
namespace Go.Proofs.YtfdealobplcboaaGreat.Sx
open Go.ChangeShapes Go.WideShapes Go.ChangeAt Go.RowKit

section
variable {H : Type} {enc : TypeId × Value → H} {w : World} {base : Nat} {spare : Nat → Bool} {held : Bool}
theorem co_B : Tryz.prog.cellsOf 55 = 12 := by kernel_rfl
theorem trod_B {fuel : Nat} {cs : List Value} {x : DataW H × List MemPlace} (h : DataW.trod enc Tryz.prog w base spare held fuel 55 cs = some x) : ∃ r : Bx, cs = r.c := by
  obtain ⟨xs, n, rfl, _, hl, hx, hf⟩ := DataW.trod_struct Tryz.underlying55 h
  rw [co_B] at hl
  have hx : xs.length = 2 := hx
  obtain ⟨y0, y1, rfl⟩ : ∃ a b, xs = [a, b] := by
    match xs, hx with
    | [a, b], _ => exact ⟨a, b, rfl⟩
  have h0 : DataW.trod enc Tryz.prog w base spare held n 25 ((cs.drop 0).take (Tryz.prog.cellsOf 25)) = some y0 := hf 0 _ rfl
  have h1 : DataW.trod enc Tryz.prog w base spare held n 25 ((cs.drop 6).take (Tryz.prog.cellsOf 25)) = some y1 := hf 1 _ rfl
  rw [co_P] at h0 h1
  obtain ⟨u, hu⟩ := trod_P h0
  obtain ⟨v, hv⟩ := trod_P h1
  refine ⟨⟨u, v⟩, ?_⟩
  have e : cs = (cs.drop 0).take 6 ++ (cs.drop 6).take 6 := by
    match cs, hl with
    | [a, b, c, d, e, f, a', b', c', d', e', f'], _ => rfl
  rw [e, hu, hv]; rfl
theorem open_B {r : Reach} {b0 : Nat} {v : Value} {d : DataW H} {ps : List MemPlace} (hv : Value.okWide Tryz.prog w r b0 55 v) (hd : DataW.Trod enc Tryz.prog w base spare held 55 v d ps) : ∃ r : Bx, v = r.v := by
  obtain ⟨cs, rfl⟩ := okWide_agg Tryz.underlying55 hv
  obtain ⟨fuel, hf⟩ := hd
  obtain ⟨r, hr⟩ := trod_B hf
  exact ⟨r, congrArg Value.agg (Array.ext' hr)⟩
end
end Go.Proofs.YtfdealobplcboaaGreat.Sx
