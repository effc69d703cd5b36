/- Part 19 of what the statement needs: an executor of Go texts, arithmetic, and contracts of the functions that are called. -/
import Derived.Test.YtfdealobplcboaaGreatCm118
/- Print of 3/2. -/
set_option linter.unusedVariables false
set_option linter.unusedSimpArgs false
set_option maxRecDepth 100000
set_option maxHeartbeats 4000000
namespace Go.Proofs.YtfdealobplcboaaGreat.Sx

theorem mgl_small {n : Nat} (h0 : n ≠ 0) (h : n < 256) : mgl n = [UInt8.ofNat n] := by
  rw [mgl_pos h0, Nat.div_eq_of_lt h, mgl_zero, Nat.mod_eq_of_lt h]; rfl
theorem mg_small {n : Nat} (h0 : n ≠ 0) (h : n < 256) : mg n = ⟨#[UInt8.ofNat n]⟩ := by
  unfold mg; rw [mgl_small h0 h]
theorem num32 : (3 / 2 : Rat).num = 3 := by decide +kernel
theorem den32 : (3 / 2 : Rat).den = 2 := by decide +kernel
theorem cr32 : cr (3 / 2) = ⟨false, ⟨#[3]⟩, ⟨#[2]⟩⟩ := by
  unfold cr
  rw [num32, den32, if_neg (by decide), show (3 : Int).natAbs = 3 from rfl, mg_small (by decide) (by decide), mg_small (by decide) (by decide)]
  rfl
theorem zV3 : zV (3 : Int) = .agg #[.bool false, .string ⟨#[3]⟩] := by
  unfold zV zR
  rw [show (3 : Int).natAbs = 3 from rfl, mg_small (by decide) (by decide)]
  rfl
theorem zV2 : zV (2 : Int) = .agg #[.bool false, .string ⟨#[2]⟩] := by
  unfold zV zR
  rw [show (2 : Int).natAbs = 2 from rfl, mg_small (by decide) (by decide)]
  rfl
theorem ratPrint32 : Con Tryz.prog 79 [.v (R.v ⟨false, ⟨#[3]⟩, ⟨#[2]⟩⟩)] (.v (.string ⟨#[51, 47, 50]⟩)) := by
  have hi : Is 1 (⟨false, ⟨#[3]⟩, ⟨#[2]⟩⟩ : R) (3 / 2) := by
    rw [← cr32]
    exact Bd.is ⟨by rw [num32]; decide, by rw [den32]; decide⟩
  have c1 := parts_q hi (by decide)
  rw [num32, den32] at c1
  have c1 : Con Tryz.prog 158 [.v (R.v ⟨false, ⟨#[3]⟩, ⟨#[2]⟩⟩)] (.v (.tuple #[zV 3, zV 2])) := c1
  rw [zV3, zV2] at c1
  have c2 := is_con false ⟨#[2]⟩ 1 (by decide) (by decide) (by decide)
  have e3 : decide (zval false ⟨#[2]⟩ = 1) = false := by decide +kernel
  rw [e3] at c2
  have c2 : Con Tryz.prog 159 [.v (.agg #[.bool false, .string ⟨#[2]⟩]), .v (.int .i64 1)] (.v (.bool false)) := c2
  refine Con.of ttOk mixed Tryz.func79 { ord := [(4, [0, 3, 1, 2, 4, 5, 6])] } .nil 0 (by kernel_rfl) (fun P' E hP hE => ?_)
  cbv
  refine CallTo.w hP hE c1 ⟨rfl, trivial⟩ ?_
  cbv
  refine CallTo.w hP hE c2 ⟨rfl, rfl, trivial⟩ ?_
  cbv
  refine fork.ff ?_
  cbv
  refine CallTo.w hP hE print3 ⟨rfl, trivial⟩ ?_
  cbv
  refine Need.mk (by subst hE; refine (show Env.std.fits _ 1 from ?_); rw [s_fits]; decide) ?_
  cbv
  refine CallTo.w hP hE print2 ⟨rfl, trivial⟩ ?_
  cbv
  refine Need.mk (by subst hE; refine (show Env.std.fits _ 1 from ?_); rw [s_fits]; decide) ?_
  cbv
  subst hE
  rfl
end Go.Proofs.YtfdealobplcboaaGreat.Sx
