/- The statement RingCentroids: for every input the call answers true, and the input reads behind the call as before. No condition. -/
import Derived.Test.YtkipmmiiackdaaaGreatCi33
set_option linter.unusedVariables false
set_option linter.unusedSimpArgs false
namespace Go.Proofs.YtkipmmiiackdaaaGreat.ringCentroids
open Go.ChangeShapes Go.WideShapes Go.ChangeAt Go.RowKit Go.Proofs.YtkipmmiiackdaaaGreat.Sx
theorem k10:(Rows.ringCentroidsRow.inPlace == Tryz.pinned.checked.prog.inPlace 4)=true:=by kernel_rfl
theorem k11:(Rows.ringCentroidsRow.unfollowed == Tryz.pinned.checked.prog.unfollowed 4)=true:=by kernel_rfl
theorem k12:(Rows.ringCentroidsRow.recurses == Tryz.pinned.checked.prog.recurses 4)=true:=by kernel_rfl
theorem k13:(Rows.ringCentroidsRow.named == Tryz.pinned.checked.prog.varsNamed 4)=true:=by kernel_rfl
theorem closed:joinedFacts Tryz.pinned.checked.prog 4 Tryz.f4 Rows.ringCentroidsSpec Rows.ringCentroidsRow=true:=by
 unfold joinedFacts
 rw [k10,k11,k12,k13]
 kernel_rfl
theorem over:Rows.ringCentroidsRow.holds Tryz.pinned (OpenSpec.ofChange Rows.ringCentroidsSpec):=
 OpenClaim.holds_of_wide 4 Tryz.f4 rfl rfl rfl rfl rfl rfl rfl ⟨rfl,rfl,rfl,rfl,rfl⟩ rfl rfl rfl rfl rfl (by kernel_rfl) Tryz.func4 closed
  (of_decide_eq_true (by kernel_rfl)) (by unfold Func.isWrapper; first | (rw [if_pos (by decide +kernel)]; kernel_rfl) | (rw [if_neg (by decide +kernel)]; exact ⟨rfl,rfl⟩))
  (fun os started H enc _=>lifted os started H enc)
theorem proved:Rows.RingCentroidsSaid:=over
#print axioms proved
end Go.Proofs.YtkipmmiiackdaaaGreat.ringCentroids
namespace Go.Proofs.YtkipmmiiackdaaaGreat
/-- The row, under a short name, for the claim. -/
theorem ringCentroids_holds:Rows.RingCentroidsSaid:=ringCentroids.proved
end Go.Proofs.YtkipmmiiackdaaaGreat
