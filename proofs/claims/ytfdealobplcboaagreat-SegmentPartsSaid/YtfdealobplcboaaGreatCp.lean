/- The statement SegmentParts: for every input the call answers true, and the input reads behind the call as before. No condition. -/
import Derived.Test.YtfdealobplcboaaGreatCp27
set_option linter.unusedVariables false
set_option linter.unusedSimpArgs false
namespace Go.Proofs.YtfdealobplcboaaGreat.segmentParts
open Go.ChangeShapes Go.WideShapes Go.ChangeAt Go.RowKit Go.Proofs.YtfdealobplcboaaGreat.Sx
theorem k10 : (Rows.segmentPartsRow.inPlace == Tryz.pinned.checked.prog.inPlace 13) = true := by kernel_rfl
theorem k11 : (Rows.segmentPartsRow.unfollowed == Tryz.pinned.checked.prog.unfollowed 13) = true := by kernel_rfl
theorem k12 : (Rows.segmentPartsRow.recurses == Tryz.pinned.checked.prog.recurses 13) = true := by kernel_rfl
theorem k13 : (Rows.segmentPartsRow.named == Tryz.pinned.checked.prog.varsNamed 13) = true := by kernel_rfl
theorem closed : joinedFacts Tryz.pinned.checked.prog 13 Tryz.f13 Rows.segmentPartsSpec Rows.segmentPartsRow = true := by
 unfold joinedFacts
 rw [k10, k11, k12, k13]
 kernel_rfl
theorem over : Rows.segmentPartsRow.holds Tryz.pinned (OpenSpec.ofChange Rows.segmentPartsSpec) :=
 OpenClaim.holds_of_wide 13 Tryz.f13 rfl rfl rfl rfl rfl rfl rfl ⟨rfl, rfl, rfl, rfl, rfl⟩ rfl rfl rfl rfl rfl (by kernel_rfl) Tryz.func13 closed
  (of_decide_eq_true (by kernel_rfl)) (by unfold Func.isWrapper; first | (rw [if_pos (by decide +kernel)]; kernel_rfl) | (rw [if_neg (by decide +kernel)]; exact ⟨rfl, rfl⟩))
  (fun os started H enc _ => lifted os started H enc)
theorem proved : Rows.SegmentPartsSaid := over
#print axioms proved
end Go.Proofs.YtfdealobplcboaaGreat.segmentParts
namespace Go.Proofs.YtfdealobplcboaaGreat
/-- The row, under a short name, for the claim. -/
theorem segmentParts_holds : Rows.SegmentPartsSaid := segmentParts.proved
end Go.Proofs.YtfdealobplcboaaGreat
