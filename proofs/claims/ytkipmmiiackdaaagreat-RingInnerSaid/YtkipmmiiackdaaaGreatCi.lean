/- The statement RingInner: for every input the call answers true, and the input reads behind the call as before. No condition. -/
import Derived.Test.YtkipmmiiackdaaaGreatCi32
set_option linter.unusedVariables false
set_option linter.unusedSimpArgs false
namespace Go.Proofs.YtkipmmiiackdaaaGreat.ringInner
open Go.ChangeShapes Go.WideShapes Go.ChangeAt Go.RowKit Go.Proofs.YtkipmmiiackdaaaGreat.Sx
theorem k10:(Rows.ringInnerRow.inPlace == Tryz.pinned.checked.prog.inPlace 6)=true:=by kernel_rfl
theorem k11:(Rows.ringInnerRow.unfollowed == Tryz.pinned.checked.prog.unfollowed 6)=true:=by kernel_rfl
theorem k12:(Rows.ringInnerRow.recurses == Tryz.pinned.checked.prog.recurses 6)=true:=by kernel_rfl
theorem k13:(Rows.ringInnerRow.named == Tryz.pinned.checked.prog.varsNamed 6)=true:=by kernel_rfl
theorem closed:joinedFacts Tryz.pinned.checked.prog 6 Tryz.f6 Rows.ringInnerSpec Rows.ringInnerRow=true:=by
 unfold joinedFacts
 rw [k10,k11,k12,k13]
 kernel_rfl
theorem over:Rows.ringInnerRow.holds Tryz.pinned (OpenSpec.ofChange Rows.ringInnerSpec):=
 OpenClaim.holds_of_wide 6 Tryz.f6 rfl rfl rfl rfl rfl rfl rfl ⟨rfl,rfl,rfl,rfl,rfl⟩ rfl rfl rfl rfl rfl (by kernel_rfl) Tryz.func6 closed
  (of_decide_eq_true (by kernel_rfl)) (by unfold Func.isWrapper; first | (rw [if_pos (by decide +kernel)]; kernel_rfl) | (rw [if_neg (by decide +kernel)]; exact ⟨rfl,rfl⟩))
  (fun os started H enc _=>lifted os started H enc)
theorem proved:Rows.RingInnerSaid:=over
#print axioms proved
end Go.Proofs.YtkipmmiiackdaaaGreat.ringInner
namespace Go.Proofs.YtkipmmiiackdaaaGreat
/-- The row, under a short name, for the claim. -/
theorem ringInner_holds:Rows.RingInnerSaid:=ringInner.proved
end Go.Proofs.YtkipmmiiackdaaaGreat
