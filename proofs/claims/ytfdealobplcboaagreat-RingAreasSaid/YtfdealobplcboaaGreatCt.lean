/- The statement RingAreas: for every input the call answers true, and the input reads behind the call as before. No condition. -/
import Derived.Test.YtfdealobplcboaaGreatCr34
set_option linter.unusedVariables false
set_option linter.unusedSimpArgs false
namespace Go.Proofs.YtfdealobplcboaaGreat.ringAreas
open Go.ChangeShapes Go.WideShapes Go.ChangeAt Go.RowKit Go.Proofs.YtfdealobplcboaaGreat.Sx
theorem k10 : (Rows.ringAreasRow.inPlace == Tryz.pinned.checked.prog.inPlace 10) = true := by kernel_rfl
theorem k11 : (Rows.ringAreasRow.unfollowed == Tryz.pinned.checked.prog.unfollowed 10) = true := by kernel_rfl
theorem k12 : (Rows.ringAreasRow.recurses == Tryz.pinned.checked.prog.recurses 10) = true := by kernel_rfl
theorem k13 : (Rows.ringAreasRow.named == Tryz.pinned.checked.prog.varsNamed 10) = true := by kernel_rfl
theorem closed : joinedFacts Tryz.pinned.checked.prog 10 Tryz.f10 Rows.ringAreasSpec Rows.ringAreasRow = true := by
 unfold joinedFacts
 rw [k10, k11, k12, k13]
 kernel_rfl
theorem over : Rows.ringAreasRow.holds Tryz.pinned (OpenSpec.ofChange Rows.ringAreasSpec) :=
 OpenClaim.holds_of_wide 10 Tryz.f10 rfl rfl rfl rfl rfl rfl rfl ⟨rfl, rfl, rfl, rfl, rfl⟩ rfl rfl rfl rfl rfl (by kernel_rfl) Tryz.func10 closed
  (of_decide_eq_true (by kernel_rfl)) (by unfold Func.isWrapper; first | (rw [if_pos (by decide +kernel)]; kernel_rfl) | (rw [if_neg (by decide +kernel)]; exact ⟨rfl, rfl⟩))
  (fun os started H enc _ => lifted os started H enc)
theorem proved : Rows.RingAreasSaid := over
#print axioms proved
end Go.Proofs.YtfdealobplcboaaGreat.ringAreas
namespace Go.Proofs.YtfdealobplcboaaGreat
/-- The row, under a short name, for the claim. -/
theorem ringAreas_holds : Rows.RingAreasSaid := ringAreas.proved
end Go.Proofs.YtfdealobplcboaaGreat
