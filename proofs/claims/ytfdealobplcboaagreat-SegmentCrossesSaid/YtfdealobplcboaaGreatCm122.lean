/- Part 22 of what the statement needs: an executor of Go texts, arithmetic, and contracts of the functions that are called. -/
import Derived.Test.YtfdealobplcboaaGreatCm121
/- SegmentCrosses: the walk; printed by genVh.py, a program of this session. -/
set_option linter.unusedVariables false
set_option linter.unusedSimpArgs false
set_option maxRecDepth 100000
set_option maxHeartbeats 16000000
namespace Go.Proofs.YtfdealobplcboaaGreat.Sx

theorem orQ_rng (a b c : Pq) : orQ a b c = -1 ∨ orQ a b c = 0 ∨ orQ a b c = 1 := cmpQ_rng _ _
theorem wrap_or {a b : Int} {p q r p' q' r' : Pq} (ha : a = orQ p q r) (hb : b = orQ p' q' r') : IntKind.i64.wrap (a * b) = a * b := by
  have g2 := orQ_rng p q r
  have g3 := orQ_rng p' q' r'
  rw [← ha] at g2
  rw [← hb] at g3
  exact w64 (by rcases g2 with h | h | h <;> rcases g3 with h' | h' | h' <;> rw [h, h'] <;> decide) (by rcases g2 with h | h | h <;> rcases g3 with h' | h' | h' <;> rw [h, h'] <;> decide)
theorem cross_val {s t : Sq} {x : Bool} (h : x = true ↔ sidesQ s t) : crossQ s t = x := by
  have := cross_iff s t
  cases hx : x <;> cases hc : crossQ s t <;> simp_all
/-- Meet's answer on valid segments that have, or have no, common points. -/
theorem meet_e {s t : Sq} (h : meetE s t ≠ 0) : crossQ s t = false := by
  unfold meetE at h
  by_cases c : wrongQ s t = true
  · unfold crossQ; rw [c]; rfl
  · rw [if_neg c] at h; exact absurd rfl h
theorem meet_e0 {s t : Sq} (h : meetE s t = 0) : wrongQ s t = false ∧ meetS s t = (meetQ s t).getD Sq.zero ∧ meetB s t = (meetQ s t).isSome := by
  unfold meetE at h
  by_cases c : wrongQ s t = true
  · rw [if_pos c] at h; cases h
  · unfold meetS meetB
    rw [if_neg c, if_neg c]
    exact ⟨by simpa using c, rfl, rfl⟩
/-- What the statement's loop comes to. -/
theorem cross_parts {s t : Sq} (h : meetE s t = 0) : crossQ s t = decide (meetB s t = true ∧ cmpP (meetS s t).a (meetS s t).b = 0 ∧ cmpP (meetS s t).a s.a ≠ 0 ∧ cmpP (meetS s t).a s.b ≠ 0 ∧ cmpP (meetS s t).a t.a ≠ 0 ∧ cmpP (meetS s t).a t.b ≠ 0) := by
  obtain ⟨h1, h2, h3⟩ := meet_e0 h
  rw [h2, h3]
  have hc := @crossQ_iff s t
  rw [Bool.eq_iff_iff, hc, decide_eq_true_iff]
  simp only [ne_eq, cmpP_eq]
  cases hm : meetQ s t with
  | none => simp
  | some m =>
    simp only [Option.isSome_some, Option.getD_some, Option.some.injEq]
    constructor
    · rintro ⟨_, m', rfl, h4, h5, h6, h7, h8⟩
      exact ⟨trivial, h4, fun e => h5 e.symm, fun e => h6 e.symm, fun e => h7 e.symm, fun e => h8 e.symm⟩
    · rintro ⟨_, h4, h5, h6, h7, h8⟩
      exact ⟨h1, m, rfl, h4, fun e => h5 e.symm, fun e => h6 e.symm, fun e => h7 e.symm, fun e => h8 e.symm⟩

theorem segmentCrosses_con (s t : Sg) : Con Tryz.prog 3 [.v s.v, .v t.v] (.v (.bool true)) := by
  have kg := great_con [s.a, s.b, t.a, t.b] (by simp)
  obtain ⟨g, hg⟩ : ∃ g, g = bigL [s.a, s.b, t.a, t.b] := ⟨_, rfl⟩
  rw [← hg] at kg
  have kt := turned_con s
  refine Con.of ttOk mixed Tryz.func3 { ord := [(3, [0, 1, 2, 3, 4, 5, 7, 8, 9, 10, 11, 12, 6, 13, 14, 15, 16, 17, 18, 19, 20, 21, 22, 24, 25, 26, 27, 28, 29, 23, 30, 31, 32, 33, 34]), (4, [0, 1, 3, 2, 4, 5, 6, 7, 10, 8, 9, 11, 12])], un := [(11, 5)] } .nil 0 (by kernel_rfl) (fun P' E hP hE => ?_)
  cbv
  refine CallTo.w hP hE kg ⟨⟨cP_ok, rfl, rfl, by decide⟩, trivial⟩ ?_
  cbv
  refine fork.mk ?_ ?_
  · intro h1
    cbv
    refine awake_c hP hE ?_
    cbv
  · intro h1
    have hb := bigL_is (hg.symm.trans h1)
    have hsa := hb s.a (by simp)
    have hsb := hb s.b (by simp)
    have hta := hb t.a (by simp)
    have htb := hb t.b (by simp)
    have hs : IsS 40 s s.q := ⟨hsa, hsb⟩
    have ht : IsS 40 t t.q := ⟨hta, htb⟩
    have hu : IsS 40 ⟨s.b, s.a⟩ s.q.turn := ⟨hsb, hsa⟩
    have f2 := cross_iff t.q s.q.turn
    rw [sides_turn, ← cross_iff] at f2
    have f2 : crossQ t.q s.q.turn = crossQ s.q t.q := Bool.eq_iff_iff.2 f2
    have f3 := @cross_parts s.q t.q
    have f4 := @meet_e s.q t.q
    clear hb
    cbv
    refine orient_c hP hE (by assumption) (by assumption) (by assumption) (by omega) ?_
    intro o1 eo1
    cbv
    refine orient_c hP hE (by assumption) (by assumption) (by assumption) (by omega) ?_
    intro o2 eo2
    cbv
    refine fork.mk ?_ ?_
    · intro k1
      cbv
      refine orient_c hP hE (by assumption) (by assumption) (by assumption) (by omega) ?_
      intro o3 eo3
      cbv
      refine orient_c hP hE (by assumption) (by assumption) (by assumption) (by omega) ?_
      intro o4 eo4
      cbv
      have hx : crossQ s.q t.q = (o3 * o4 == -1) := by
        subst hE
        simp [Env.std, wrap_or eo1 eo2] at k1
        refine cross_val ?_
        rw [beq_iff_eq, eo3, eo4]
        rw [eo1, eo2] at k1
        exact ⟨fun h => ⟨k1, h⟩, fun h => h.2⟩
      have wr := wrap_or eo3 eo4
      refine scross_c hP hE (by assumption) (by assumption) (by omega) ?_
      intro c1 ec1
      cbv
      refine fork.mk ?_ ?_
      · intro q1
        exfalso
        subst hE
        rw [ec1, hx] at q1
        simp [Env.std, wr] at q1
      · intro q1
        cbv
        refine CallTo.w hP hE kt ⟨rfl, trivial⟩ ?_
        cbv
        refine scross_c hP hE (by assumption) (by assumption) (by omega) ?_
        intro c2 ec2
        cbv
        refine fork.mk ?_ ?_
        · intro q2
          exfalso
          subst hE
          rw [ec2, f2, hx] at q2
          simp [Env.std, wr] at q2
        · intro q2
          cbv
          refine smeet_c hP hE (by assumption) (by assumption) (by omega) ?_
          intro m em hm ema emb hma hmb hmax hmay hmbx hmby b eb e ee
          cbv
          refine fork.mk ?_ ?_
          · intro q3
            have hn := f4 (by
              subst hE
              simp [Env.std] at q3
              rw [ee] at q3; exact q3)
            rw [hx] at hn
            cbv
            first
              | (refine awake_c hP hE ?_
                 cbv
                 done)
              | (refine fork.mk ?_ ?_
                 · intro q4
                   cbv
                   refine awake_c hP hE ?_
                   cbv
                 · intro q4
                   exfalso
                   subst hE
                   simp [Env.std, wr, hn] at q4)
          · intro q3
            have hp := f3 (by
              subst hE
              simp [Env.std] at q3
              rw [ee] at q3; exact q3)
            rw [hx] at hp
            cbv
            refine fork.mk ?_ ?_
            · intro b1
              rw [eb] at b1
              cbv
              refine fork.mk ?_ ?_
              · intro b2
                have b2 : cmpP (meetS s.q t.q).a (meetS s.q t.q).b = 0 := by
                  subst hE
                  have b2 := (eqv_P (t := 0)).1 b2
                  rw [em] at b2
                  exact cmpP_eq.2 (crP_iff.1 b2)
                cbv
                refine vcmp_c hP hE (by assumption) (by assumption) (by omega) ?_
                intro n1 en1
                cbv
                refine fork.mk ?_ ?_
                · intro x1
                  have y1 : cmpP (meetS s.q t.q).a s.q.a ≠ 0 := by
                    subst hE
                    simp [Env.std] at x1
                    rw [en1] at x1
                    exact x1
                  cbv
                  refine vcmp_c hP hE (by assumption) (by assumption) (by omega) ?_
                  intro n2 en2
                  cbv
                  refine fork.mk ?_ ?_
                  · intro x2
                    have y2 : cmpP (meetS s.q t.q).a s.q.b ≠ 0 := by
                      subst hE
                      simp [Env.std] at x2
                      rw [en2] at x2
                      exact x2
                    cbv
                    refine vcmp_c hP hE (by assumption) (by assumption) (by omega) ?_
                    intro n3 en3
                    cbv
                    refine fork.mk ?_ ?_
                    · intro x3
                      have y3 : cmpP (meetS s.q t.q).a t.q.a ≠ 0 := by
                        subst hE
                        simp [Env.std] at x3
                        rw [en3] at x3
                        exact x3
                      cbv
                      refine vcmp_c hP hE (by assumption) (by assumption) (by omega) ?_
                      intro n4 en4
                      cbv
                      have hin : decide (meetB s.q t.q = true ∧ cmpP (meetS s.q t.q).a (meetS s.q t.q).b = 0 ∧ cmpP (meetS s.q t.q).a s.q.a ≠ 0 ∧ cmpP (meetS s.q t.q).a s.q.b ≠ 0 ∧ cmpP (meetS s.q t.q).a t.q.a ≠ 0 ∧ cmpP (meetS s.q t.q).a t.q.b ≠ 0) = (n4 != 0) := by
                        rw [Bool.eq_iff_iff, decide_eq_true_iff, en4, bne_iff_ne]
                        exact ⟨fun h => h.2.2.2.2.2, fun h => ⟨b1, b2, y1, y2, y3, h⟩⟩
                      rw [hin] at hp
                      refine fork.mk ?_ ?_
                      · intro z
                        cbv
                        refine awake_c hP hE ?_
                        cbv
                      · intro z
                        exfalso
                        subst hE
                        first
                          | (simp [Env.std, wr, hp] at z; done)
                          | (simp [Env.std, wr] at z hp
                             first
                               | exact z hp
                               | exact hp z
                               | exact z hp.symm
                               | omega)
                    · intro x3
                      have hin : decide (meetB s.q t.q = true ∧ cmpP (meetS s.q t.q).a (meetS s.q t.q).b = 0 ∧ cmpP (meetS s.q t.q).a s.q.a ≠ 0 ∧ cmpP (meetS s.q t.q).a s.q.b ≠ 0 ∧ cmpP (meetS s.q t.q).a t.q.a ≠ 0 ∧ cmpP (meetS s.q t.q).a t.q.b ≠ 0) = false := by
                        refine decide_eq_false fun h => ?_
                        subst hE
                        simp [Env.std] at x3
                        rw [en3] at x3
                        exact h.2.2.2.2.1 x3
                      rw [hin] at hp
                      cbv
                      refine fork.mk ?_ ?_
                      · intro z
                        cbv
                        refine awake_c hP hE ?_
                        cbv
                      · intro z
                        exfalso
                        subst hE
                        simp [Env.std, wr, hp] at z
                  · intro x2
                    have hin : decide (meetB s.q t.q = true ∧ cmpP (meetS s.q t.q).a (meetS s.q t.q).b = 0 ∧ cmpP (meetS s.q t.q).a s.q.a ≠ 0 ∧ cmpP (meetS s.q t.q).a s.q.b ≠ 0 ∧ cmpP (meetS s.q t.q).a t.q.a ≠ 0 ∧ cmpP (meetS s.q t.q).a t.q.b ≠ 0) = false := by
                      refine decide_eq_false fun h => ?_
                      subst hE
                      simp [Env.std] at x2
                      rw [en2] at x2
                      exact h.2.2.2.1 x2
                    rw [hin] at hp
                    cbv
                    refine fork.mk ?_ ?_
                    · intro z
                      cbv
                      refine awake_c hP hE ?_
                      cbv
                    · intro z
                      exfalso
                      subst hE
                      simp [Env.std, wr, hp] at z
                · intro x1
                  have hin : decide (meetB s.q t.q = true ∧ cmpP (meetS s.q t.q).a (meetS s.q t.q).b = 0 ∧ cmpP (meetS s.q t.q).a s.q.a ≠ 0 ∧ cmpP (meetS s.q t.q).a s.q.b ≠ 0 ∧ cmpP (meetS s.q t.q).a t.q.a ≠ 0 ∧ cmpP (meetS s.q t.q).a t.q.b ≠ 0) = false := by
                    refine decide_eq_false fun h => ?_
                    subst hE
                    simp [Env.std] at x1
                    rw [en1] at x1
                    exact h.2.2.1 x1
                  rw [hin] at hp
                  cbv
                  refine fork.mk ?_ ?_
                  · intro z
                    cbv
                    refine awake_c hP hE ?_
                    cbv
                  · intro z
                    exfalso
                    subst hE
                    simp [Env.std, wr, hp] at z
              · intro b2
                have hin : decide (meetB s.q t.q = true ∧ cmpP (meetS s.q t.q).a (meetS s.q t.q).b = 0 ∧ cmpP (meetS s.q t.q).a s.q.a ≠ 0 ∧ cmpP (meetS s.q t.q).a s.q.b ≠ 0 ∧ cmpP (meetS s.q t.q).a t.q.a ≠ 0 ∧ cmpP (meetS s.q t.q).a t.q.b ≠ 0) = false := by
                  refine decide_eq_false fun h => ?_
                  subst hE
                  have e : m.a = m.b := by
                    rw [em]
                    show crP _ = crP _
                    rw [cmpP_eq.1 h.2.1]
                  have := (eqv_P (t := 0)).2 e
                  exact absurd (this.symm.trans b2) (by decide)
                rw [hin] at hp
                cbv
                refine fork.mk ?_ ?_
                · intro z
                  cbv
                  refine awake_c hP hE ?_
                  cbv
                · intro z
                  exfalso
                  subst hE
                  simp [Env.std, wr, hp] at z
            · intro b1
              have hin : decide (meetB s.q t.q = true ∧ cmpP (meetS s.q t.q).a (meetS s.q t.q).b = 0 ∧ cmpP (meetS s.q t.q).a s.q.a ≠ 0 ∧ cmpP (meetS s.q t.q).a s.q.b ≠ 0 ∧ cmpP (meetS s.q t.q).a t.q.a ≠ 0 ∧ cmpP (meetS s.q t.q).a t.q.b ≠ 0) = false := by
                refine decide_eq_false fun h => ?_
                rw [← eb] at h
                exact absurd (h.1.symm.trans b1) (by decide)
              rw [hin] at hp
              cbv
              refine fork.mk ?_ ?_
              · intro z
                cbv
                refine awake_c hP hE ?_
                cbv
              · intro z
                exfalso
                subst hE
                simp [Env.std, wr, hp] at z
    · intro k1
      cbv
      have hx : crossQ s.q t.q = false := by
        subst hE
        simp [Env.std, wrap_or eo1 eo2] at k1
        refine cross_val ?_
        rw [eo1, eo2] at k1
        exact ⟨fun h => (by cases h), fun h => absurd h.1 k1⟩
      have wr : True := trivial
      refine scross_c hP hE (by assumption) (by assumption) (by omega) ?_
      intro c1 ec1
      cbv
      refine fork.mk ?_ ?_
      · intro q1
        exfalso
        subst hE
        rw [ec1, hx] at q1
        simp [Env.std, wr] at q1
      · intro q1
        cbv
        refine CallTo.w hP hE kt ⟨rfl, trivial⟩ ?_
        cbv
        refine scross_c hP hE (by assumption) (by assumption) (by omega) ?_
        intro c2 ec2
        cbv
        refine fork.mk ?_ ?_
        · intro q2
          exfalso
          subst hE
          rw [ec2, f2, hx] at q2
          simp [Env.std, wr] at q2
        · intro q2
          cbv
          refine smeet_c hP hE (by assumption) (by assumption) (by omega) ?_
          intro m em hm ema emb hma hmb hmax hmay hmbx hmby b eb e ee
          cbv
          refine fork.mk ?_ ?_
          · intro q3
            have hn := f4 (by
              subst hE
              simp [Env.std] at q3
              rw [ee] at q3; exact q3)
            rw [hx] at hn
            cbv
            first
              | (refine awake_c hP hE ?_
                 cbv
                 done)
              | (refine fork.mk ?_ ?_
                 · intro q4
                   cbv
                   refine awake_c hP hE ?_
                   cbv
                 · intro q4
                   exfalso
                   subst hE
                   simp [Env.std, wr, hn] at q4)
          · intro q3
            have hp := f3 (by
              subst hE
              simp [Env.std] at q3
              rw [ee] at q3; exact q3)
            rw [hx] at hp
            cbv
            refine fork.mk ?_ ?_
            · intro b1
              rw [eb] at b1
              cbv
              refine fork.mk ?_ ?_
              · intro b2
                have b2 : cmpP (meetS s.q t.q).a (meetS s.q t.q).b = 0 := by
                  subst hE
                  have b2 := (eqv_P (t := 0)).1 b2
                  rw [em] at b2
                  exact cmpP_eq.2 (crP_iff.1 b2)
                cbv
                refine vcmp_c hP hE (by assumption) (by assumption) (by omega) ?_
                intro n1 en1
                cbv
                refine fork.mk ?_ ?_
                · intro x1
                  have y1 : cmpP (meetS s.q t.q).a s.q.a ≠ 0 := by
                    subst hE
                    simp [Env.std] at x1
                    rw [en1] at x1
                    exact x1
                  cbv
                  refine vcmp_c hP hE (by assumption) (by assumption) (by omega) ?_
                  intro n2 en2
                  cbv
                  refine fork.mk ?_ ?_
                  · intro x2
                    have y2 : cmpP (meetS s.q t.q).a s.q.b ≠ 0 := by
                      subst hE
                      simp [Env.std] at x2
                      rw [en2] at x2
                      exact x2
                    cbv
                    refine vcmp_c hP hE (by assumption) (by assumption) (by omega) ?_
                    intro n3 en3
                    cbv
                    refine fork.mk ?_ ?_
                    · intro x3
                      have y3 : cmpP (meetS s.q t.q).a t.q.a ≠ 0 := by
                        subst hE
                        simp [Env.std] at x3
                        rw [en3] at x3
                        exact x3
                      cbv
                      refine vcmp_c hP hE (by assumption) (by assumption) (by omega) ?_
                      intro n4 en4
                      cbv
                      have hin : decide (meetB s.q t.q = true ∧ cmpP (meetS s.q t.q).a (meetS s.q t.q).b = 0 ∧ cmpP (meetS s.q t.q).a s.q.a ≠ 0 ∧ cmpP (meetS s.q t.q).a s.q.b ≠ 0 ∧ cmpP (meetS s.q t.q).a t.q.a ≠ 0 ∧ cmpP (meetS s.q t.q).a t.q.b ≠ 0) = (n4 != 0) := by
                        rw [Bool.eq_iff_iff, decide_eq_true_iff, en4, bne_iff_ne]
                        exact ⟨fun h => h.2.2.2.2.2, fun h => ⟨b1, b2, y1, y2, y3, h⟩⟩
                      rw [hin] at hp
                      refine fork.mk ?_ ?_
                      · intro z
                        cbv
                        refine awake_c hP hE ?_
                        cbv
                      · intro z
                        exfalso
                        subst hE
                        first
                          | (simp [Env.std, wr, hp] at z; done)
                          | (simp [Env.std, wr] at z hp
                             first
                               | exact z hp
                               | exact hp z
                               | exact z hp.symm
                               | omega)
                    · intro x3
                      have hin : decide (meetB s.q t.q = true ∧ cmpP (meetS s.q t.q).a (meetS s.q t.q).b = 0 ∧ cmpP (meetS s.q t.q).a s.q.a ≠ 0 ∧ cmpP (meetS s.q t.q).a s.q.b ≠ 0 ∧ cmpP (meetS s.q t.q).a t.q.a ≠ 0 ∧ cmpP (meetS s.q t.q).a t.q.b ≠ 0) = false := by
                        refine decide_eq_false fun h => ?_
                        subst hE
                        simp [Env.std] at x3
                        rw [en3] at x3
                        exact h.2.2.2.2.1 x3
                      rw [hin] at hp
                      cbv
                      refine fork.mk ?_ ?_
                      · intro z
                        cbv
                        refine awake_c hP hE ?_
                        cbv
                      · intro z
                        exfalso
                        subst hE
                        simp [Env.std, wr, hp] at z
                  · intro x2
                    have hin : decide (meetB s.q t.q = true ∧ cmpP (meetS s.q t.q).a (meetS s.q t.q).b = 0 ∧ cmpP (meetS s.q t.q).a s.q.a ≠ 0 ∧ cmpP (meetS s.q t.q).a s.q.b ≠ 0 ∧ cmpP (meetS s.q t.q).a t.q.a ≠ 0 ∧ cmpP (meetS s.q t.q).a t.q.b ≠ 0) = false := by
                      refine decide_eq_false fun h => ?_
                      subst hE
                      simp [Env.std] at x2
                      rw [en2] at x2
                      exact h.2.2.2.1 x2
                    rw [hin] at hp
                    cbv
                    refine fork.mk ?_ ?_
                    · intro z
                      cbv
                      refine awake_c hP hE ?_
                      cbv
                    · intro z
                      exfalso
                      subst hE
                      simp [Env.std, wr, hp] at z
                · intro x1
                  have hin : decide (meetB s.q t.q = true ∧ cmpP (meetS s.q t.q).a (meetS s.q t.q).b = 0 ∧ cmpP (meetS s.q t.q).a s.q.a ≠ 0 ∧ cmpP (meetS s.q t.q).a s.q.b ≠ 0 ∧ cmpP (meetS s.q t.q).a t.q.a ≠ 0 ∧ cmpP (meetS s.q t.q).a t.q.b ≠ 0) = false := by
                    refine decide_eq_false fun h => ?_
                    subst hE
                    simp [Env.std] at x1
                    rw [en1] at x1
                    exact h.2.2.1 x1
                  rw [hin] at hp
                  cbv
                  refine fork.mk ?_ ?_
                  · intro z
                    cbv
                    refine awake_c hP hE ?_
                    cbv
                  · intro z
                    exfalso
                    subst hE
                    simp [Env.std, wr, hp] at z
              · intro b2
                have hin : decide (meetB s.q t.q = true ∧ cmpP (meetS s.q t.q).a (meetS s.q t.q).b = 0 ∧ cmpP (meetS s.q t.q).a s.q.a ≠ 0 ∧ cmpP (meetS s.q t.q).a s.q.b ≠ 0 ∧ cmpP (meetS s.q t.q).a t.q.a ≠ 0 ∧ cmpP (meetS s.q t.q).a t.q.b ≠ 0) = false := by
                  refine decide_eq_false fun h => ?_
                  subst hE
                  have e : m.a = m.b := by
                    rw [em]
                    show crP _ = crP _
                    rw [cmpP_eq.1 h.2.1]
                  have := (eqv_P (t := 0)).2 e
                  exact absurd (this.symm.trans b2) (by decide)
                rw [hin] at hp
                cbv
                refine fork.mk ?_ ?_
                · intro z
                  cbv
                  refine awake_c hP hE ?_
                  cbv
                · intro z
                  exfalso
                  subst hE
                  simp [Env.std, wr, hp] at z
            · intro b1
              have hin : decide (meetB s.q t.q = true ∧ cmpP (meetS s.q t.q).a (meetS s.q t.q).b = 0 ∧ cmpP (meetS s.q t.q).a s.q.a ≠ 0 ∧ cmpP (meetS s.q t.q).a s.q.b ≠ 0 ∧ cmpP (meetS s.q t.q).a t.q.a ≠ 0 ∧ cmpP (meetS s.q t.q).a t.q.b ≠ 0) = false := by
                refine decide_eq_false fun h => ?_
                rw [← eb] at h
                exact absurd (h.1.symm.trans b1) (by decide)
              rw [hin] at hp
              cbv
              refine fork.mk ?_ ?_
              · intro z
                cbv
                refine awake_c hP hE ?_
                cbv
              · intro z
                exfalso
                subst hE
                simp [Env.std, wr, hp] at z
end Go.Proofs.YtfdealobplcboaaGreat.Sx
