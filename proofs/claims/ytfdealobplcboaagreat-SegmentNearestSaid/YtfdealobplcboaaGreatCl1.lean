/- Part 1 of what the statement needs: an executor of Go texts, arithmetic, and contracts of the functions that are called. -/
import Derived.Test.YtfdealobplcboaaGreatK19
/- SegmentNearest: the walk. -/
set_option linter.unusedVariables false
set_option linter.unusedSimpArgs false
set_option maxRecDepth 100000
set_option maxHeartbeats 16000000
namespace Go.Proofs.YtfdealobplcboaaGreat.Sx

theorem segmentNearest_con (s : Sg) (p : Pt) (k : R) : Con Tryz.prog 6 [.v s.v, .v p.v, .v k.v] (.v (.bool true)) := by
  have kg := great_con [s.a, s.b, p, ⟨k, ⟨false, ⟨#[]⟩, ⟨#[]⟩⟩⟩] (by simp)
  obtain ⟨g, hg⟩ : ∃ g, g = bigL [s.a, s.b, p, ⟨k, ⟨false, ⟨#[]⟩, ⟨#[]⟩⟩⟩] := ⟨_, rfl⟩
  rw [← hg] at kg
  refine Con.of ttOk mixed Tryz.func6 { ord := [(6, [0, 1, 2, 3, 4, 5, 6, 7, 8, 12, 9, 10, 11]), (9, [0, 1, 2, 3, 4, 5, 7, 8, 6, 9, 10, 11, 12]), (13, [0, 1, 2, 3, 4, 6, 7, 8, 9, 5, 10, 11, 12, 13, 14, 15, 16, 17, 18])], un := [(7, 4)] } .nil 0 (by kernel_rfl) (fun P' E hP hE => ?_)
  cbv
  refine CallTo.w hP hE kg ⟨⟨cP_ok, rfl, rfl, by decide⟩, trivial⟩ ?_
  cbv
  refine fork.mk ?_ ?_
  · intro h1
    cbv
    refine awake_c hP hE ?_
    cbv
  · intro h1
    have hb := bigL_is (hg.symm.trans h1)
    have hsa : IsP 40 s.a s.q.a := hb s.a (by simp)
    have hsb : IsP 40 s.b s.q.b := hb s.b (by simp)
    have hp := hb p (by simp)
    have hk : Is 40 k k.q := (hb ⟨k, ⟨false, ⟨#[]⟩, ⟨#[]⟩⟩⟩ (by simp)).x
    have hs : IsS 40 s s.q := ⟨hsa, hsb⟩
    clear hb
    cbv
    refine schk_c hP hE (by assumption) (by omega) ?_
    intro m1 em1
    cbv
    refine fork.mk ?_ ?_
    · intro g1
      cbv
      refine awake_c hP hE ?_
      cbv
    · intro g1
      have hc0 : chkQ s.q = 0 := by
        subst hE
        simp [Env.std] at g1
        rw [em1] at g1
        exact g1
      have hne : s.q.a ≠ s.q.b := fun e => absurd hc0 (chkQ_iff.2 e)
      cbv
      refine near_c hP hE (by assumption) (by assumption) (by omega) ?_
      intro n en hn hnx hny e ee
      cbv
      refine fork.no (by subst hE; simp [Env.std, ee, hc0]) ?_
      cbv
      refine son2_c hP hE (by assumption) (by assumption) (by omega) ?_
      intro b1 eb1
      cbv
      have hb1 : b1 = true := eb1.trans (near_on hne)
      refine fork.no (by subst hE; simp [Env.std, hb1]) ?_
      cbv
      refine vat_c hP hE (by assumption) (by assumption) (by assumption) (by omega) ?_
      intro q eq hq hqx hqy
      cbv
      refine son2_c hP hE (by assumption) (by assumption) (by omega) ?_
      intro b2 eb2
      cbv
      have hb2 : b2 = true := eb2.trans ((on_iff _ _).2 at_on.1)
      refine fork.yes hb2 ?_
      cbv
      refine vdist_c hP hE (by assumption) (by assumption) (by omega) ?_
      intro d1 ed1 hd1
      cbv
      refine vdist_c hP hE (by assumption) (by assumption) (by omega) ?_
      intro d2 ed2 hd2
      cbv
      refine cmp_c hP hE (by assumption) (by assumption) (by omega) ?_
      intro c1 ec1
      cbv
      have hc1 : ¬ c1 < 0 := by
        rw [ec1, cmpQ_lt]; exact near_le hne (eb2.symm.trans hb2)
      refine fork.no (by subst hE; simp [Env.std]; omega) ?_
      cbv
      refine son2_c hP hE (by assumption) (by assumption) (by omega) ?_
      intro b3 eb3
      cbv
      have hb3 : b3 = true := eb3.trans ((on_iff _ _).2 at_on.2)
      refine fork.yes hb3 ?_
      cbv
      refine vdist_c hP hE (by assumption) (by assumption) (by omega) ?_
      intro d3 ed3 hd3
      cbv
      refine vdist_c hP hE (by assumption) (by assumption) (by omega) ?_
      intro d4 ed4 hd4
      cbv
      refine cmp_c hP hE (by assumption) (by assumption) (by omega) ?_
      intro c2 ec2
      cbv
      have hc2 : ¬ c2 < 0 := by
        rw [ec2, cmpQ_lt]; exact near_le hne (eb3.symm.trans hb3)
      refine fork.no (by subst hE; simp [Env.std]; omega) ?_
      cbv
      refine son2_c hP hE (by assumption) (by assumption) (by omega) ?_
      intro b4 eb4
      cbv
      refine fork.mk ?_ ?_
      · intro hb4
        cbv
        refine vdist_c hP hE (by assumption) (by assumption) (by omega) ?_
        intro d5 ed5 hd5
        cbv
        refine vdist_c hP hE (by assumption) (by assumption) (by omega) ?_
        intro d6 ed6 hd6
        cbv
        refine cmp_c hP hE (by assumption) (by assumption) (by omega) ?_
        intro c3 ec3
        cbv
        have hc3 : ¬ c3 < 0 := by
          rw [ec3, cmpQ_lt]; exact near_le hne (eb4.symm.trans hb4)
        refine fork.no (by subst hE; simp [Env.std]; omega) ?_
        cbv
        refine vcmp_c hP hE (by assumption) (by assumption) (by omega) ?_
        intro i1 ei1
        cbv
        refine fork.mk ?_ ?_
        · intro i1h
          have q1 : nearQ s.q p.q ≠ s.q.a := by
            subst hE
            simp [Env.std] at i1h
            rw [ei1, cmpP_eq] at i1h
            exact i1h
          cbv
          refine vcmp_c hP hE (by assumption) (by assumption) (by omega) ?_
          intro i2 ei2
          cbv
          refine fork.mk ?_ ?_
          · intro i2h
            cbv
            refine awake_c hP hE ?_
            cbv
          · intro i2h
            have q2 : nearQ s.q p.q ≠ s.q.b := by
              subst hE
              simp [Env.std] at i2h
              rw [ei2, cmpP_eq] at i2h
              exact i2h
            have q3 := near_perp hne q1 q2
            cbv
            refine vsub_c hP hE (by assumption) (by assumption) (by omega) ?_
            intro u eu hu hux huy
            cbv
            refine vsub_c hP hE (by assumption) (by assumption) (by omega) ?_
            intro v ev hv hvx hvy
            cbv
            refine vdot_c hP hE (by assumption) (by assumption) (by omega) ?_
            intro w ew hw
            cbv
            refine sign_c hP hE (by assumption) (by omega) ?_
            intro z ez
            cbv
            refine fork.yes (by subst hE; simp [Env.std]; rw [ez, q3]; rfl) ?_
            cbv
            refine awake_c hP hE ?_
            cbv
        · intro i1h
          cbv
          refine awake_c hP hE ?_
          cbv
      · intro hb4
        cbv
        refine vcmp_c hP hE (by assumption) (by assumption) (by omega) ?_
        intro i1 ei1
        cbv
        refine fork.mk ?_ ?_
        · intro i1h
          have q1 : nearQ s.q p.q ≠ s.q.a := by
            subst hE
            simp [Env.std] at i1h
            rw [ei1, cmpP_eq] at i1h
            exact i1h
          cbv
          refine vcmp_c hP hE (by assumption) (by assumption) (by omega) ?_
          intro i2 ei2
          cbv
          refine fork.mk ?_ ?_
          · intro i2h
            cbv
            refine awake_c hP hE ?_
            cbv
          · intro i2h
            have q2 : nearQ s.q p.q ≠ s.q.b := by
              subst hE
              simp [Env.std] at i2h
              rw [ei2, cmpP_eq] at i2h
              exact i2h
            have q3 := near_perp hne q1 q2
            cbv
            refine vsub_c hP hE (by assumption) (by assumption) (by omega) ?_
            intro u eu hu hux huy
            cbv
            refine vsub_c hP hE (by assumption) (by assumption) (by omega) ?_
            intro v ev hv hvx hvy
            cbv
            refine vdot_c hP hE (by assumption) (by assumption) (by omega) ?_
            intro w ew hw
            cbv
            refine sign_c hP hE (by assumption) (by omega) ?_
            intro z ez
            cbv
            refine fork.yes (by subst hE; simp [Env.std]; rw [ez, q3]; rfl) ?_
            cbv
            refine awake_c hP hE ?_
            cbv
        · intro i1h
          cbv
          refine awake_c hP hE ?_
          cbv
end Go.Proofs.YtfdealobplcboaaGreat.Sx
