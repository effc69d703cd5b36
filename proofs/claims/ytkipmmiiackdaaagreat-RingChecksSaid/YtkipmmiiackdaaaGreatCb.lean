/- The statement RingChecks: for every input the call answers true, and the input reads behind the call as before. No condition. -/
import Derived.Test.YtkipmmiiackdaaaGreatCa38
set_option linter.unusedVariables false
set_option linter.unusedSimpArgs false
namespace Go.Proofs.YtkipmmiiackdaaaGreat.ringChecks
open Go.ChangeShapes Go.WideShapes Go.ChangeAt Go.RowKit Go.Proofs.YtkipmmiiackdaaaGreat.Sx
theorem k10:(Rows.ringChecksRow.inPlace == Tryz.pinned.checked.prog.inPlace 3)=true:=by kernel_rfl
theorem k11:(Rows.ringChecksRow.unfollowed == Tryz.pinned.checked.prog.unfollowed 3)=true:=by kernel_rfl
theorem k12:(Rows.ringChecksRow.recurses == Tryz.pinned.checked.prog.recurses 3)=true:=by kernel_rfl
theorem k13:(Rows.ringChecksRow.named == Tryz.pinned.checked.prog.varsNamed 3)=true:=by kernel_rfl
theorem closed:joinedFacts Tryz.pinned.checked.prog 3 Tryz.f3 Rows.ringChecksSpec Rows.ringChecksRow=true:=by
 unfold joinedFacts
 rw [k10,k11,k12,k13]
 kernel_rfl
theorem over:Rows.ringChecksRow.holds Tryz.pinned (OpenSpec.ofChange Rows.ringChecksSpec):=
 OpenClaim.holds_of_wide 3 Tryz.f3 rfl rfl rfl rfl rfl rfl rfl ⟨rfl,rfl,rfl,rfl,rfl⟩ rfl rfl rfl rfl rfl (by kernel_rfl) Tryz.func3 closed
  (of_decide_eq_true (by kernel_rfl)) (by unfold Func.isWrapper; first | (rw [if_pos (by decide +kernel)]; kernel_rfl) | (rw [if_neg (by decide +kernel)]; exact ⟨rfl,rfl⟩))
  (fun os started H enc _=>lifted os started H enc)
theorem proved:Rows.RingChecksSaid:=over
#print axioms proved
end Go.Proofs.YtkipmmiiackdaaaGreat.ringChecks
namespace Go.Proofs.YtkipmmiiackdaaaGreat
/-- The row, under a short name, for the claim. -/
theorem ringChecks_holds:Rows.RingChecksSaid:=ringChecks.proved
end Go.Proofs.YtkipmmiiackdaaaGreat
