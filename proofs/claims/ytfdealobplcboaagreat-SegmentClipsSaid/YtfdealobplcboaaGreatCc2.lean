/- Part 2 of what the statement needs: an executor of Go texts, arithmetic, and contracts of the functions that are called. -/
import Derived.Test.YtfdealobplcboaaGreatCc1
/- SegmentClips: the walk; printed by genVo.py, a program of this session. -/
set_option linter.unusedVariables false
set_option linter.unusedSimpArgs false
set_option maxRecDepth 100000
set_option maxHeartbeats 16000000
namespace Go.Proofs.YtfdealobplcboaaGreat.Sx

theorem all3 {Q : Nat → Prop} (h0 : Q 0) (h1 : Q 1) (h2 : Q 2) : ∀ i, i ≤ 2 → Q i := by
  intro i hi
  match i, hi with
  | 0, _ => exact h0
  | 1, _ => exact h1
  | 2, _ => exact h2
theorem clips_facts {s : Sq} {b : Bq} (he : clipE s b = 0) : (∀ x, (onQ s x && withinQ b x) = ((clipR s b).isSome && onQ ((clipR s b).getD Sq.zero) x)) ∧ ((clipR s b).isSome = true → (onQ s ((clipR s b).getD Sq.zero).a = true ∧ (((clipR s b).getD Sq.zero).a = s.a ∨ edgeQ b ((clipR s b).getD Sq.zero).a = true)) ∧ (onQ s ((clipR s b).getD Sq.zero).b = true ∧ (((clipR s b).getD Sq.zero).b = s.b ∨ edgeQ b ((clipR s b).getD Sq.zero).b = true))) := by
  constructor
  · intro x
    have h := clip_on he x
    rw [Bool.eq_iff_iff, Bool.and_eq_true, Bool.and_eq_true, on_iff, on_iff]
    unfold withinQ
    rw [decide_eq_true_iff, h]
    cases e : clipR s b with
    | none => simp
    | some c => simp
  · intro h
    cases e : clipR s b with
    | none => rw [e] at h; cases h
    | some c =>
      have hc := clip_ends he e
      simp only [Option.getD_some]
      unfold edgeQ
      rw [on_iff, on_iff, decide_eq_true_iff, decide_eq_true_iff]
      exact hc
theorem segmentClips_con (s : Sg) (b : Bx) (k : R) : Con Tryz.prog 8 [.v s.v, .v b.v, .v k.v] (.v (.bool true)) := by
  have kg := great_con [s.a, s.b, b.lo, b.hi, ⟨k, ⟨false, ⟨#[]⟩, ⟨#[]⟩⟩⟩] (by simp)
  obtain ⟨g, hg⟩ : ∃ g, g = bigL [s.a, s.b, b.lo, b.hi, ⟨k, ⟨false, ⟨#[]⟩, ⟨#[]⟩⟩⟩] := ⟨_, rfl⟩
  rw [← hg] at kg
  by_cases hbig : g = true
  · refine Con.of ttOk mixed Tryz.func8 { ord := [(6, [0, 1, 2, 3, 4, 5, 6, 7, 8, 9, 10, 11, 12, 16, 13, 14, 15])] } .nil 0 (by kernel_rfl) (fun P' E hP hE => ?_)
    cbv
    refine CallTo.w hP hE kg ⟨⟨cP_ok, rfl, rfl, by decide⟩, trivial⟩ ?_
    cbv
    refine fork.yes hbig ?_
    cbv
    refine awake_c hP hE ?_
    cbv
  · have h1 : g = false := by simpa using hbig
    have hbl := bigL_is (hg.symm.trans h1)
    have hsa : IsP 40 s.a s.q.a := hbl s.a (by simp)
    have hsb : IsP 40 s.b s.q.b := hbl s.b (by simp)
    have hlo : IsP 40 b.lo b.q.lo := hbl b.lo (by simp)
    have hhi : IsP 40 b.hi b.q.hi := hbl b.hi (by simp)
    have hk : Is 40 k k.q := (hbl ⟨k, ⟨false, ⟨#[]⟩, ⟨#[]⟩⟩⟩ (by simp)).x
    have hs : IsS 40 s s.q := ⟨hsa, hsb⟩
    have hb : IsB 40 b b.q := ⟨hlo, hhi⟩
    have hlox : Is 40 b.lo.x b.q.lo.x := hlo.x
    have hloy : Is 40 b.lo.y b.q.lo.y := hlo.y
    have hhix : Is 40 b.hi.x b.q.hi.x := hhi.x
    have hhiy : Is 40 b.hi.y b.q.hi.y := hhi.y
    obtain ⟨c, cb, ce, ec, hc, ecb, ece, kc⟩ := clip_p hs hb (by decide)
    obtain ⟨q, eq, hq, kq⟩ := vat_p hsa hsb hk (by decide)
    have hca := hc.a
    have hcb := hc.b
    clear hbl hbig hg
    refine Con.of ttOk mixed Tryz.func8 { ord := [(6, [0, 1, 2, 3, 4, 5, 6, 7, 8, 9, 10, 11, 12, 16, 13, 14, 15])] } .nil 0 (by kernel_rfl) (fun P' E hP hE => ?_)
    cbv
    refine CallTo.w hP hE kg ⟨⟨cP_ok, rfl, rfl, by decide⟩, trivial⟩ ?_
    cbv
    refine fork.no h1 ?_
    cbv
    refine schk_c hP hE (by assumption) (by omega) ?_
    intro c1 ec1
    cbv
    refine fork.mk ?_ ?_
    · intro g1
      cbv
      refine awake_c hP hE ?_
      cbv
    · intro g1
      have hc1 : chkQ s.q = 0 := by
        subst hE
        simp [Env.std] at g1
        rw [ec1] at g1
        exact g1
      cbv
      refine cmp_c hP hE hlox hhix (by omega) ?_
      intro c2 ec2
      cbv
      refine fork.mk ?_ ?_
      · intro g2
        cbv
        refine awake_c hP hE ?_
        cbv
      · intro g2
        have hc2 : ¬ 0 < cmpQ b.q.lo.x b.q.hi.x := by
          rw [← ec2]; subst hE
          exact of_decide_eq_false (show decide (c2 > 0) = false from g2)
        cbv
        refine cmp_c hP hE hloy hhiy (by omega) ?_
        intro c3 ec3
        cbv
        refine fork.mk ?_ ?_
        · intro g3
          cbv
          refine awake_c hP hE ?_
          cbv
        · intro g3
          have hc3 : ¬ 0 < cmpQ b.q.lo.y b.q.hi.y := by
            rw [← ec3]; subst hE
            exact of_decide_eq_false (show decide (c3 > 0) = false from g3)
          have he : clipE s.q b.q = 0 := by
            unfold clipE
            rw [if_neg (fun h => h hc1), if_neg (fun h => h.elim hc2 hc3)]
          have F := clips_facts he
          have f1 := F.1
          have f2 := F.2
          rw [he] at ece
          clear F
          cbv
          refine CallTo.w hP hE kc ⟨rfl, rfl, trivial⟩ ?_
          cbv
          refine fork.no (by subst hE; simp [Env.std, ece]) ?_
          cbv
          refine CallTo.w hP hE kq ⟨rfl, rfl, rfl, trivial⟩ ?_
          cbv
          refine LoopTo.by (ι := Nat) (fun i => [(78, .c (.int .i64 (i : Int)))]) (fun i => []) (fun i => i ≤ 5) (fun i => 5 - i) 0 [] (by decide) ?_ (all6 ?_ ?_ ?_ ?_ ?_ ?_)
          · cbv
            and_intros
            all_goals first
              | exact True.intro
              | rfl
              | (simp; done)
          · cbv
            refine son2_c hP hE hs hsa (by omega) ?_
            intro w1 ew1
            cbv
            refine fork.mk ?_ ?_
            · intro x1
              cbv
              refine within_c hP hE hb hsa (by omega) ?_
              intro w2 ew2
              cbv
              refine fork.mk ?_ ?_
              · intro y1
                cbv
                refine son2_c hP hE hc hsa (by omega) ?_
                intro w3 ew3
                cbv
                have F := f1 (s.q.a)
                refine fork.no (by subst hE; simp [Env.std, ew1, ew2, ew3, ← ecb, y1] at *; try simp_all) ?_
                cbv
                refine ⟨1, [], by decide, by decide, ?_⟩
                cbv
                and_intros
                all_goals first
                  | exact True.intro
                  | rfl
                  | (simp; done)
              · intro y1
                cbv
                have F := f1 (s.q.a)
                refine fork.no (by subst hE; simp [Env.std, ew1, ew2, ← ecb, y1] at *; try simp_all) ?_
                cbv
                refine ⟨1, [], by decide, by decide, ?_⟩
                cbv
                and_intros
                all_goals first
                  | exact True.intro
                  | rfl
                  | (simp; done)
            · intro x1
              cbv
              refine fork.mk ?_ ?_
              · intro y1
                cbv
                refine son2_c hP hE hc hsa (by omega) ?_
                intro w3 ew3
                cbv
                have F := f1 (s.q.a)
                refine fork.no (by subst hE; simp [Env.std, ew1, ew3, ← ecb, y1] at *; try simp_all) ?_
                cbv
                refine ⟨1, [], by decide, by decide, ?_⟩
                cbv
                and_intros
                all_goals first
                  | exact True.intro
                  | rfl
                  | (simp; done)
              · intro y1
                cbv
                have F := f1 (s.q.a)
                refine fork.no (by subst hE; simp [Env.std, ew1, ← ecb, y1] at *; try simp_all) ?_
                cbv
                refine ⟨1, [], by decide, by decide, ?_⟩
                cbv
                and_intros
                all_goals first
                  | exact True.intro
                  | rfl
                  | (simp; done)
          · cbv
            refine son2_c hP hE hs hsb (by omega) ?_
            intro w1 ew1
            cbv
            refine fork.mk ?_ ?_
            · intro x1
              cbv
              refine within_c hP hE hb hsb (by omega) ?_
              intro w2 ew2
              cbv
              refine fork.mk ?_ ?_
              · intro y1
                cbv
                refine son2_c hP hE hc hsb (by omega) ?_
                intro w3 ew3
                cbv
                have F := f1 (s.q.b)
                refine fork.no (by subst hE; simp [Env.std, ew1, ew2, ew3, ← ecb, y1] at *; try simp_all) ?_
                cbv
                refine ⟨2, [], by decide, by decide, ?_⟩
                cbv
                and_intros
                all_goals first
                  | exact True.intro
                  | rfl
                  | (simp; done)
              · intro y1
                cbv
                have F := f1 (s.q.b)
                refine fork.no (by subst hE; simp [Env.std, ew1, ew2, ← ecb, y1] at *; try simp_all) ?_
                cbv
                refine ⟨2, [], by decide, by decide, ?_⟩
                cbv
                and_intros
                all_goals first
                  | exact True.intro
                  | rfl
                  | (simp; done)
            · intro x1
              cbv
              refine fork.mk ?_ ?_
              · intro y1
                cbv
                refine son2_c hP hE hc hsb (by omega) ?_
                intro w3 ew3
                cbv
                have F := f1 (s.q.b)
                refine fork.no (by subst hE; simp [Env.std, ew1, ew3, ← ecb, y1] at *; try simp_all) ?_
                cbv
                refine ⟨2, [], by decide, by decide, ?_⟩
                cbv
                and_intros
                all_goals first
                  | exact True.intro
                  | rfl
                  | (simp; done)
              · intro y1
                cbv
                have F := f1 (s.q.b)
                refine fork.no (by subst hE; simp [Env.std, ew1, ← ecb, y1] at *; try simp_all) ?_
                cbv
                refine ⟨2, [], by decide, by decide, ?_⟩
                cbv
                and_intros
                all_goals first
                  | exact True.intro
                  | rfl
                  | (simp; done)
          · cbv
            refine son2_c hP hE hs hlo (by omega) ?_
            intro w1 ew1
            cbv
            refine fork.mk ?_ ?_
            · intro x1
              cbv
              refine within_c hP hE hb hlo (by omega) ?_
              intro w2 ew2
              cbv
              refine fork.mk ?_ ?_
              · intro y1
                cbv
                refine son2_c hP hE hc hlo (by omega) ?_
                intro w3 ew3
                cbv
                have F := f1 (b.q.lo)
                refine fork.no (by subst hE; simp [Env.std, ew1, ew2, ew3, ← ecb, y1] at *; try simp_all) ?_
                cbv
                refine ⟨3, [], by decide, by decide, ?_⟩
                cbv
                and_intros
                all_goals first
                  | exact True.intro
                  | rfl
                  | (simp; done)
              · intro y1
                cbv
                have F := f1 (b.q.lo)
                refine fork.no (by subst hE; simp [Env.std, ew1, ew2, ← ecb, y1] at *; try simp_all) ?_
                cbv
                refine ⟨3, [], by decide, by decide, ?_⟩
                cbv
                and_intros
                all_goals first
                  | exact True.intro
                  | rfl
                  | (simp; done)
            · intro x1
              cbv
              refine fork.mk ?_ ?_
              · intro y1
                cbv
                refine son2_c hP hE hc hlo (by omega) ?_
                intro w3 ew3
                cbv
                have F := f1 (b.q.lo)
                refine fork.no (by subst hE; simp [Env.std, ew1, ew3, ← ecb, y1] at *; try simp_all) ?_
                cbv
                refine ⟨3, [], by decide, by decide, ?_⟩
                cbv
                and_intros
                all_goals first
                  | exact True.intro
                  | rfl
                  | (simp; done)
              · intro y1
                cbv
                have F := f1 (b.q.lo)
                refine fork.no (by subst hE; simp [Env.std, ew1, ← ecb, y1] at *; try simp_all) ?_
                cbv
                refine ⟨3, [], by decide, by decide, ?_⟩
                cbv
                and_intros
                all_goals first
                  | exact True.intro
                  | rfl
                  | (simp; done)
          · cbv
            refine son2_c hP hE hs hhi (by omega) ?_
            intro w1 ew1
            cbv
            refine fork.mk ?_ ?_
            · intro x1
              cbv
              refine within_c hP hE hb hhi (by omega) ?_
              intro w2 ew2
              cbv
              refine fork.mk ?_ ?_
              · intro y1
                cbv
                refine son2_c hP hE hc hhi (by omega) ?_
                intro w3 ew3
                cbv
                have F := f1 (b.q.hi)
                refine fork.no (by subst hE; simp [Env.std, ew1, ew2, ew3, ← ecb, y1] at *; try simp_all) ?_
                cbv
                refine ⟨4, [], by decide, by decide, ?_⟩
                cbv
                and_intros
                all_goals first
                  | exact True.intro
                  | rfl
                  | (simp; done)
              · intro y1
                cbv
                have F := f1 (b.q.hi)
                refine fork.no (by subst hE; simp [Env.std, ew1, ew2, ← ecb, y1] at *; try simp_all) ?_
                cbv
                refine ⟨4, [], by decide, by decide, ?_⟩
                cbv
                and_intros
                all_goals first
                  | exact True.intro
                  | rfl
                  | (simp; done)
            · intro x1
              cbv
              refine fork.mk ?_ ?_
              · intro y1
                cbv
                refine son2_c hP hE hc hhi (by omega) ?_
                intro w3 ew3
                cbv
                have F := f1 (b.q.hi)
                refine fork.no (by subst hE; simp [Env.std, ew1, ew3, ← ecb, y1] at *; try simp_all) ?_
                cbv
                refine ⟨4, [], by decide, by decide, ?_⟩
                cbv
                and_intros
                all_goals first
                  | exact True.intro
                  | rfl
                  | (simp; done)
              · intro y1
                cbv
                have F := f1 (b.q.hi)
                refine fork.no (by subst hE; simp [Env.std, ew1, ← ecb, y1] at *; try simp_all) ?_
                cbv
                refine ⟨4, [], by decide, by decide, ?_⟩
                cbv
                and_intros
                all_goals first
                  | exact True.intro
                  | rfl
                  | (simp; done)
          · cbv
            refine son2_c hP hE hs hq (by omega) ?_
            intro w1 ew1
            cbv
            refine fork.mk ?_ ?_
            · intro x1
              cbv
              refine within_c hP hE hb hq (by omega) ?_
              intro w2 ew2
              cbv
              refine fork.mk ?_ ?_
              · intro y1
                cbv
                refine son2_c hP hE hc hq (by omega) ?_
                intro w3 ew3
                cbv
                have F := f1 (s.q.a.at s.q.b k.q)
                refine fork.no (by subst hE; simp [Env.std, ew1, ew2, ew3, ← ecb, y1] at *; try simp_all) ?_
                cbv
                refine ⟨5, [], by decide, by decide, ?_⟩
                cbv
                and_intros
                all_goals first
                  | exact True.intro
                  | rfl
                  | (simp; done)
              · intro y1
                cbv
                have F := f1 (s.q.a.at s.q.b k.q)
                refine fork.no (by subst hE; simp [Env.std, ew1, ew2, ← ecb, y1] at *; try simp_all) ?_
                cbv
                refine ⟨5, [], by decide, by decide, ?_⟩
                cbv
                and_intros
                all_goals first
                  | exact True.intro
                  | rfl
                  | (simp; done)
            · intro x1
              cbv
              refine fork.mk ?_ ?_
              · intro y1
                cbv
                refine son2_c hP hE hc hq (by omega) ?_
                intro w3 ew3
                cbv
                have F := f1 (s.q.a.at s.q.b k.q)
                refine fork.no (by subst hE; simp [Env.std, ew1, ew3, ← ecb, y1] at *; try simp_all) ?_
                cbv
                refine ⟨5, [], by decide, by decide, ?_⟩
                cbv
                and_intros
                all_goals first
                  | exact True.intro
                  | rfl
                  | (simp; done)
              · intro y1
                cbv
                have F := f1 (s.q.a.at s.q.b k.q)
                refine fork.no (by subst hE; simp [Env.std, ew1, ← ecb, y1] at *; try simp_all) ?_
                cbv
                refine ⟨5, [], by decide, by decide, ?_⟩
                cbv
                and_intros
                all_goals first
                  | exact True.intro
                  | rfl
                  | (simp; done)
          · cbv
            refine LoopTo.by (ι := Nat) (fun i => [(104, .c (.int .i64 (i : Int)))]) (fun i => []) (fun i => i ≤ 2) (fun i => 2 - i) 0 [] (by decide) ?_ (all3 ?_ ?_ ?_)
            · cbv
              and_intros
              all_goals first
                | exact True.intro
                | rfl
                | (simp; done)
            · cbv
              refine fork.mk ?_ ?_
              · intro y1
                have f2 := f2 (ecb.symm.trans y1)
                have f3 := f2.1
                clear f2
                cbv
                refine son2_c hP hE hs hca (by omega) ?_
                intro w1 ew1
                cbv
                refine fork.no (by subst hE; simp [Env.std, ew1]; exact f3.1) ?_
                cbv
                refine vcmp_c hP hE hca hsa (by omega) ?_
                intro n1 en1
                cbv
                refine fork.mk ?_ ?_
                · intro y2
                  have q2 : ((clipR s.q b.q).getD Sq.zero).a ≠ s.q.a := by
                    subst hE
                    simp [Env.std] at y2
                    rw [en1, cmpP_eq] at y2
                    exact y2
                  cbv
                  refine ledge_c hP hE hb hca (by omega) ?_
                  intro w2 ew2
                  cbv
                  refine fork.no (by subst hE; simp [Env.std, ew2]; exact f3.2.resolve_left q2) ?_
                  cbv
                  refine ⟨1, [], by decide, by decide, ?_⟩
                  cbv
                  and_intros
                  all_goals first
                    | exact True.intro
                    | rfl
                    | (simp; done)
                · intro y2
                  cbv
                  first
                    | (refine fork.no (by subst hE; first | exact y2 | rfl | (simp [Env.std] at *; simp_all)) ?_
                       cbv
                       refine ⟨1, [], by decide, by decide, ?_⟩
                       cbv
                       and_intros
                       all_goals first
                         | exact True.intro
                         | rfl
                         | (simp; done))
                    | (refine ⟨1, [], by decide, by decide, ?_⟩
                       cbv
                       and_intros
                       all_goals first
                         | exact True.intro
                         | rfl
                         | (simp; done))
              · intro y1
                cbv
                first
                  | (refine fork.no (by subst hE; first | exact y1 | rfl | (simp [Env.std] at *; simp_all)) ?_
                     cbv
                     refine ⟨1, [], by decide, by decide, ?_⟩
                     cbv
                     and_intros
                     all_goals first
                       | exact True.intro
                       | rfl
                       | (simp; done))
                  | (refine ⟨1, [], by decide, by decide, ?_⟩
                     cbv
                     and_intros
                     all_goals first
                       | exact True.intro
                       | rfl
                       | (simp; done))
            · cbv
              refine fork.mk ?_ ?_
              · intro y1
                have f2 := f2 (ecb.symm.trans y1)
                have f3 := f2.2
                clear f2
                cbv
                refine son2_c hP hE hs hcb (by omega) ?_
                intro w1 ew1
                cbv
                refine fork.no (by subst hE; simp [Env.std, ew1]; exact f3.1) ?_
                cbv
                refine vcmp_c hP hE hcb hsb (by omega) ?_
                intro n1 en1
                cbv
                refine fork.mk ?_ ?_
                · intro y2
                  have q2 : ((clipR s.q b.q).getD Sq.zero).b ≠ s.q.b := by
                    subst hE
                    simp [Env.std] at y2
                    rw [en1, cmpP_eq] at y2
                    exact y2
                  cbv
                  refine ledge_c hP hE hb hcb (by omega) ?_
                  intro w2 ew2
                  cbv
                  refine fork.no (by subst hE; simp [Env.std, ew2]; exact f3.2.resolve_left q2) ?_
                  cbv
                  refine ⟨2, [], by decide, by decide, ?_⟩
                  cbv
                  and_intros
                  all_goals first
                    | exact True.intro
                    | rfl
                    | (simp; done)
                · intro y2
                  cbv
                  first
                    | (refine fork.no (by subst hE; first | exact y2 | rfl | (simp [Env.std] at *; simp_all)) ?_
                       cbv
                       refine ⟨2, [], by decide, by decide, ?_⟩
                       cbv
                       and_intros
                       all_goals first
                         | exact True.intro
                         | rfl
                         | (simp; done))
                    | (refine ⟨2, [], by decide, by decide, ?_⟩
                       cbv
                       and_intros
                       all_goals first
                         | exact True.intro
                         | rfl
                         | (simp; done))
              · intro y1
                cbv
                first
                  | (refine fork.no (by subst hE; first | exact y1 | rfl | (simp [Env.std] at *; simp_all)) ?_
                     cbv
                     refine ⟨2, [], by decide, by decide, ?_⟩
                     cbv
                     and_intros
                     all_goals first
                       | exact True.intro
                       | rfl
                       | (simp; done))
                  | (refine ⟨2, [], by decide, by decide, ?_⟩
                     cbv
                     and_intros
                     all_goals first
                       | exact True.intro
                       | rfl
                       | (simp; done))
            · cbv
              refine awake_c hP hE ?_
              cbv
end Go.Proofs.YtfdealobplcboaaGreat.Sx
