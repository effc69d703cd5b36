/- Part 18 of what the statement needs: an executor of Go texts, arithmetic, and contracts of the functions that are called. -/
import Derived.Test.YtfdealobplcboaaGreatCm117
/- Print of 3 and of 2. -/
set_option linter.unusedVariables false
set_option linter.unusedSimpArgs false
set_option maxRecDepth 100000
set_option maxHeartbeats 4000000
namespace Go.Proofs.YtfdealobplcboaaGreat.Sx

theorem fork.tt {x y : Unit → Prop} (h : x ()) : fork true x y := ⟨fun _ => h, fun e => (by cases e)⟩
theorem fork.ff {x y : Unit → Prop} (h : y ()) : fork false x y := ⟨fun e => (by cases e), fun _ => h⟩
theorem print3 : Con Tryz.prog 160 [.v (.agg #[.bool false, .string ⟨#[3]⟩])] (.v (.string ⟨#[51]⟩)) := by
  have c1 : Con Tryz.prog 164 [.v (.string ⟨#[3]⟩)] (.own 169 cU [3]) := by
    have := load_con ⟨#[3]⟩ (by decide)
    have e : lb (bv ⟨#[3]⟩) = [3] := by decide +kernel
    rw [e] at this; exact this
  have c2 : Con Tryz.prog 236 [.ro cU [3], .v (.int .u32 1000000000)] (.tup [.own 169 cU [], .v (.int .u32 3)]) := by
    have := short_con 3 1000000000 (by decide +kernel) (by decide) (by decide)
    have e : lb 3 = [3] := by decide +kernel
    have e2 : lb (3 / 1000000000) = [] := by decide +kernel
    rw [e, e2] at this; exact this
  refine Con.of ttBOk mixed Tryz.func160 { un := [(5, 10), (9, 9), (17, 2)] } (.cons (f := 202) (g := {}) Tryz.func202 (by kernel_rfl) (.cons (f := 235) (g := { un := [(0, 2)] }) Tryz.func235 (by kernel_rfl) (.cons (f := 203) (g := {}) Tryz.func203 (by kernel_rfl) .nil))) 4 (by kernel_rfl) (fun P' E hP hE => ?_)
  subst hE
  cbv
  refine CallTo.con hP rfl c1 (by exact ⟨rfl, trivial⟩) ?_
  cbv
  refine ⟨fun _ => ?_, fun h => (by cases h)⟩
  cbv
  refine CallTo.con hP rfl c2 (by exact ⟨rfl, rfl, trivial⟩) ?_
  cbv
  repeat (first
    | (refine Need.mk (by first | decide | (and_intros <;> first | exact Int.NonNeg.mk _ | decide)) ?_; cbv)
    | (refine fork.tt ?_; cbv)
    | (refine fork.ff ?_; cbv)
    | (refine CallTo.copyFresh hP rfl ?_; cbv)
    | (refine CallTo.copyUsed hP rfl ?_; cbv))
  refine CallTo.bstring (xs := [51]) hP rfl rfl rfl (by simp) (by simp) ?_
  cbv
theorem print2 : Con Tryz.prog 160 [.v (.agg #[.bool false, .string ⟨#[2]⟩])] (.v (.string ⟨#[50]⟩)) := by
  have c1 : Con Tryz.prog 164 [.v (.string ⟨#[2]⟩)] (.own 169 cU [2]) := by
    have := load_con ⟨#[2]⟩ (by decide)
    have e : lb (bv ⟨#[2]⟩) = [2] := by decide +kernel
    rw [e] at this; exact this
  have c2 : Con Tryz.prog 236 [.ro cU [2], .v (.int .u32 1000000000)] (.tup [.own 169 cU [], .v (.int .u32 2)]) := by
    have := short_con 2 1000000000 (by decide +kernel) (by decide) (by decide)
    have e : lb 2 = [2] := by decide +kernel
    have e2 : lb (2 / 1000000000) = [] := by decide +kernel
    rw [e, e2] at this; exact this
  refine Con.of ttBOk mixed Tryz.func160 { un := [(5, 10), (9, 9), (17, 2)] } (.cons (f := 202) (g := {}) Tryz.func202 (by kernel_rfl) (.cons (f := 235) (g := { un := [(0, 2)] }) Tryz.func235 (by kernel_rfl) (.cons (f := 203) (g := {}) Tryz.func203 (by kernel_rfl) .nil))) 4 (by kernel_rfl) (fun P' E hP hE => ?_)
  subst hE
  cbv
  refine CallTo.con hP rfl c1 (by exact ⟨rfl, trivial⟩) ?_
  cbv
  refine ⟨fun _ => ?_, fun h => (by cases h)⟩
  cbv
  refine CallTo.con hP rfl c2 (by exact ⟨rfl, rfl, trivial⟩) ?_
  cbv
  repeat (first
    | (refine Need.mk (by first | decide | (and_intros <;> first | exact Int.NonNeg.mk _ | decide)) ?_; cbv)
    | (refine fork.tt ?_; cbv)
    | (refine fork.ff ?_; cbv)
    | (refine CallTo.copyFresh hP rfl ?_; cbv)
    | (refine CallTo.copyUsed hP rfl ?_; cbv))
  refine CallTo.bstring (xs := [50]) hP rfl rfl rfl (by simp) (by simp) ?_
  cbv
end Go.Proofs.YtfdealobplcboaaGreat.Sx
