/- The statement RingSides: for every input the call answers true, and the input reads behind the call as before. No condition. -/
import Derived.Test.YtkipmmiiackdaaaGreatCa36
set_option linter.unusedVariables false
set_option linter.unusedSimpArgs false
namespace Go.Proofs.YtkipmmiiackdaaaGreat.ringSides
open Go.ChangeShapes Go.WideShapes Go.ChangeAt Go.RowKit Go.Proofs.YtkipmmiiackdaaaGreat.Sx
theorem k10:(Rows.ringSidesRow.inPlace == Tryz.pinned.checked.prog.inPlace 5)=true:=by kernel_rfl
theorem k11:(Rows.ringSidesRow.unfollowed == Tryz.pinned.checked.prog.unfollowed 5)=true:=by kernel_rfl
theorem k12:(Rows.ringSidesRow.recurses == Tryz.pinned.checked.prog.recurses 5)=true:=by kernel_rfl
theorem k13:(Rows.ringSidesRow.named == Tryz.pinned.checked.prog.varsNamed 5)=true:=by kernel_rfl
theorem closed:joinedFacts Tryz.pinned.checked.prog 5 Tryz.f5 Rows.ringSidesSpec Rows.ringSidesRow=true:=by
 unfold joinedFacts
 rw [k10,k11,k12,k13]
 kernel_rfl
theorem over:Rows.ringSidesRow.holds Tryz.pinned (OpenSpec.ofChange Rows.ringSidesSpec):=
 OpenClaim.holds_of_wide 5 Tryz.f5 rfl rfl rfl rfl rfl rfl rfl ⟨rfl,rfl,rfl,rfl,rfl⟩ rfl rfl rfl rfl rfl (by kernel_rfl) Tryz.func5 closed
  (of_decide_eq_true (by kernel_rfl)) (by unfold Func.isWrapper; first | (rw [if_pos (by decide +kernel)]; kernel_rfl) | (rw [if_neg (by decide +kernel)]; exact ⟨rfl,rfl⟩))
  (fun os started H enc _=>lifted os started H enc)
theorem proved:Rows.RingSidesSaid:=over
#print axioms proved
end Go.Proofs.YtkipmmiiackdaaaGreat.ringSides
namespace Go.Proofs.YtkipmmiiackdaaaGreat
/-- The row, under a short name, for the claim. -/
theorem ringSides_holds:Rows.RingSidesSaid:=ringSides.proved
end Go.Proofs.YtkipmmiiackdaaaGreat
