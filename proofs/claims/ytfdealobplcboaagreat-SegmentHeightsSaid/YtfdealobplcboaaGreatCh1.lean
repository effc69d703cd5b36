/- Part 1 of what the statement needs: an executor of Go texts, arithmetic, and contracts of the functions that are called. -/
import Derived.Test.YtfdealobplcboaaGreatK19
/- SegmentHeights: the walk. -/
set_option linter.unusedVariables false
set_option linter.unusedSimpArgs false
set_option maxRecDepth 100000
set_option maxHeartbeats 16000000
namespace Go.Proofs.YtfdealobplcboaaGreat.Sx

theorem segmentHeights_con (s : Sg) (x : R) : Con Tryz.prog 5 [.v s.v, .v x.v] (.v (.bool true)) := by
  have kg := great_con [s.a, s.b, ⟨x, ⟨false, ⟨#[]⟩, ⟨#[]⟩⟩⟩] (by simp)
  obtain ⟨g, hg⟩ : ∃ g, g = bigL [s.a, s.b, ⟨x, ⟨false, ⟨#[]⟩, ⟨#[]⟩⟩⟩] := ⟨_, rfl⟩
  rw [← hg] at kg
  refine Con.of ttOk mixed Tryz.func5 { ord := [(4, [0, 1, 2, 3, 5, 6, 7, 8, 4, 9, 10, 11])] } .nil 0 (by kernel_rfl) (fun P' E hP hE => ?_)
  cbv
  refine CallTo.w hP hE kg ⟨⟨cP_ok, rfl, rfl, by decide⟩, trivial⟩ ?_
  cbv
  refine fork.mk ?_ ?_
  · intro h1
    cbv
    refine awake_c hP hE ?_
    cbv
  · intro h1
    have hb := bigL_is (hg.symm.trans h1)
    have hsa : IsP 40 s.a s.q.a := hb s.a (by simp)
    have hsb : IsP 40 s.b s.q.b := hb s.b (by simp)
    have hx := (hb ⟨x, ⟨false, ⟨#[]⟩, ⟨#[]⟩⟩⟩ (by simp)).x
    have hs : IsS 40 s s.q := ⟨hsa, hsb⟩
    have hx : Is 40 x x.q := hx
    have hsax : Is 40 s.a.x s.q.a.x := hsa.x
    have hsbx : Is 40 s.b.x s.q.b.x := hsb.x
    clear hb
    cbv
    refine schk_c hP hE (by assumption) (by omega) ?_
    intro m1 em1
    cbv
    refine fork.mk ?_ ?_
    · intro g1
      cbv
      refine awake_c hP hE ?_
      cbv
    · intro g1
      have hne : s.q.a ≠ s.q.b := by
        subst hE
        simp [Env.std] at g1
        rw [em1] at g1
        exact fun e => absurd g1 (chkQ_iff.2 e)
      cbv
      refine height_c hP hE (by assumption) (by assumption) (by omega) ?_
      intro y ey hy e ee
      cbv
      refine cmp_c hP hE (by assumption) (by assumption) (by omega) ?_
      intro n en
      cbv
      refine cmp_c hP hE (by assumption) (by assumption) (by omega) ?_
      intro m em
      cbv
      refine cmp_c hP hE (by assumption) (by assumption) (by omega) ?_
      intro k ek
      cbv
      refine fork.mk ?_ ?_
      · intro g20
        have g2 : s.q.a.x = s.q.b.x := by
          subst hE
          simp [Env.std] at g20
          exact cmpQ_eq.1 (ek.symm.trans g20)
        clear g20
        cbv
        refine fork.mk ?_ ?_
        · intro g3
          cbv
          refine awake_c hP hE ?_
          cbv
        · intro g3
          exfalso
          subst hE
          simp [Env.std, ee, height_par hne g2] at g3
      · intro g20
        have g2 : s.q.a.x ≠ s.q.b.x := by
          subst hE
          simp [Env.std] at g20
          exact fun e => g20 (ek.trans (cmpQ_eq.2 e))
        have wr : IntKind.i64.wrap (n * m) = n * m := by
          have h2 := cmpQ_rng s.q.a.x x.q
          have h3 := cmpQ_rng s.q.b.x x.q
          rw [← en] at h2
          rw [← em] at h3
          exact w64 (by rcases h2 with h | h | h <;> rcases h3 with h' | h' | h' <;> rw [h, h'] <;> decide) (by rcases h2 with h | h | h <;> rcases h3 with h' | h' | h' <;> rw [h, h'] <;> decide)
        cbv
        refine fork.mk ?_ ?_
        · intro g30
          have g3 : 0 < cmpQ s.q.a.x x.q * cmpQ s.q.b.x x.q := by
            subst hE
            simp [Env.std, wr] at g30
            rw [← en, ← em]; exact g30
          cbv
          refine fork.mk ?_ ?_
          · intro g4
            cbv
            refine awake_c hP hE ?_
            cbv
          · intro g4
            exfalso
            subst hE
            simp [Env.std, ee, height_out hne g2 g3] at g4
        · intro g30
          have g3 : ¬ 0 < cmpQ s.q.a.x x.q * cmpQ s.q.b.x x.q := by
            subst hE
            simp [Env.std, wr] at g30
            rw [← en, ← em]; omega
          have ho := height_on hne g2 g3
          cbv
          refine fork.mk ?_ ?_
          · intro g4
            have hp : IsP 410 ⟨x, y⟩ ⟨x.q, heightQ s.q x.q⟩ := ⟨hx.mono (by decide), hy⟩
            have hs2 : IsS 410 s s.q := hs.mono (by decide)
            cbv
            refine son_c hP hE (by assumption) (by assumption) (by omega) ?_
            intro b eb
            cbv
            refine fork.mk ?_ ?_
            · intro g5
              cbv
              refine awake_c hP hE ?_
              cbv
            · intro g5
              exfalso
              subst hE
              rw [eb, ho.2] at g5
              cases g5
          · intro g4
            exfalso
            subst hE
            simp [Env.std, ee, ho.1] at g4
end Go.Proofs.YtfdealobplcboaaGreat.Sx
