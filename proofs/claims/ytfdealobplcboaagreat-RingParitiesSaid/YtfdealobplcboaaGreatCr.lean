/- The statement RingParities: for every input the call answers true, and the input reads behind the call as before. No condition. -/
import Derived.Test.YtfdealobplcboaaGreatCr31
set_option linter.unusedVariables false
set_option linter.unusedSimpArgs false
namespace Go.Proofs.YtfdealobplcboaaGreat.ringParities
open Go.ChangeShapes Go.WideShapes Go.ChangeAt Go.RowKit Go.Proofs.YtfdealobplcboaaGreat.Sx
theorem k10 : (Rows.ringParitiesRow.inPlace == Tryz.pinned.checked.prog.inPlace 12) = true := by kernel_rfl
theorem k11 : (Rows.ringParitiesRow.unfollowed == Tryz.pinned.checked.prog.unfollowed 12) = true := by kernel_rfl
theorem k12 : (Rows.ringParitiesRow.recurses == Tryz.pinned.checked.prog.recurses 12) = true := by kernel_rfl
theorem k13 : (Rows.ringParitiesRow.named == Tryz.pinned.checked.prog.varsNamed 12) = true := by kernel_rfl
theorem closed : joinedFacts Tryz.pinned.checked.prog 12 Tryz.f12 Rows.ringParitiesSpec Rows.ringParitiesRow = true := by
 unfold joinedFacts
 rw [k10, k11, k12, k13]
 kernel_rfl
theorem over : Rows.ringParitiesRow.holds Tryz.pinned (OpenSpec.ofChange Rows.ringParitiesSpec) :=
 OpenClaim.holds_of_wide 12 Tryz.f12 rfl rfl rfl rfl rfl rfl rfl ⟨rfl, rfl, rfl, rfl, rfl⟩ rfl rfl rfl rfl rfl (by kernel_rfl) Tryz.func12 closed
  (of_decide_eq_true (by kernel_rfl)) (by unfold Func.isWrapper; first | (rw [if_pos (by decide +kernel)]; kernel_rfl) | (rw [if_neg (by decide +kernel)]; exact ⟨rfl, rfl⟩))
  (fun os started H enc _ => lifted os started H enc)
theorem proved : Rows.RingParitiesSaid := over
#print axioms proved
end Go.Proofs.YtfdealobplcboaaGreat.ringParities
namespace Go.Proofs.YtfdealobplcboaaGreat
/-- The row, under a short name, for the claim. -/
theorem ringParities_holds : Rows.RingParitiesSaid := ringParities.proved
end Go.Proofs.YtfdealobplcboaaGreat
