/- The statement SegmentCuts: for every input the call answers true, and the input reads behind the call as before. No condition. -/
import Derived.Test.YtfdealobplcboaaGreatCu25
set_option linter.unusedVariables false
set_option linter.unusedSimpArgs false
namespace Go.Proofs.YtfdealobplcboaaGreat.segmentCuts
open Go.ChangeShapes Go.WideShapes Go.ChangeAt Go.RowKit Go.Proofs.YtfdealobplcboaaGreat.Sx
theorem k10 : (Rows.segmentCutsRow.inPlace == Tryz.pinned.checked.prog.inPlace 14) = true := by kernel_rfl
theorem k11 : (Rows.segmentCutsRow.unfollowed == Tryz.pinned.checked.prog.unfollowed 14) = true := by kernel_rfl
theorem k12 : (Rows.segmentCutsRow.recurses == Tryz.pinned.checked.prog.recurses 14) = true := by kernel_rfl
theorem k13 : (Rows.segmentCutsRow.named == Tryz.pinned.checked.prog.varsNamed 14) = true := by kernel_rfl
theorem closed : joinedFacts Tryz.pinned.checked.prog 14 Tryz.f14 Rows.segmentCutsSpec Rows.segmentCutsRow = true := by
 unfold joinedFacts
 rw [k10, k11, k12, k13]
 kernel_rfl
theorem over : Rows.segmentCutsRow.holds Tryz.pinned (OpenSpec.ofChange Rows.segmentCutsSpec) :=
 OpenClaim.holds_of_wide 14 Tryz.f14 rfl rfl rfl rfl rfl rfl rfl ⟨rfl, rfl, rfl, rfl, rfl⟩ rfl rfl rfl rfl rfl (by kernel_rfl) Tryz.func14 closed
  (of_decide_eq_true (by kernel_rfl)) (by unfold Func.isWrapper; first | (rw [if_pos (by decide +kernel)]; kernel_rfl) | (rw [if_neg (by decide +kernel)]; exact ⟨rfl, rfl⟩))
  (fun os started H enc _ => lifted os started H enc)
theorem proved : Rows.SegmentCutsSaid := over
#print axioms proved
end Go.Proofs.YtfdealobplcboaaGreat.segmentCuts
namespace Go.Proofs.YtfdealobplcboaaGreat
/-- The row, under a short name, for the claim. -/
theorem segmentCuts_holds : Rows.SegmentCutsSaid := segmentCuts.proved
end Go.Proofs.YtfdealobplcboaaGreat
