/- Part 1 of what the statement needs: an executor of Go texts, arithmetic, and contracts of the functions that are called. -/
import Derived.Test.YtfdealobplcboaaGreatK19
/- SegmentCommon: the walk; printed by genVm.py, a program of this session. -/
set_option linter.unusedVariables false
set_option linter.unusedSimpArgs false
set_option maxRecDepth 100000
set_option maxHeartbeats 16000000
namespace Go.Proofs.YtfdealobplcboaaGreat.Sx

theorem common_facts {s t : Sq} (hs : s.a ≠ s.b) (ht : t.a ≠ t.b) : meetE s t = 0 ∧ meetE t.turn s = 0 ∧ meetE t s.turn = 0 ∧ meetB t.turn s = meetB s t ∧ meetB t s.turn = meetB s t ∧ meetS t.turn s = meetS s t ∧ meetS t s.turn = meetS s t ∧ (∀ x, (onQ s x && onQ t x) = (meetB s t && onQ (meetS s t) x)) ∧ (meetB s t = true → onQ s (meetS s t).a = true ∧ onQ s (meetS s t).b = true ∧ onQ t (meetS s t).a = true ∧ onQ t (meetS s t).b = true ∧ cmpP (meetS s t).a (meetS s t).b ≤ 0) := by
  have hs' : s.turn.a ≠ s.turn.b := fun e => hs e.symm
  have ht' : t.turn.a ≠ t.turn.b := fun e => ht e.symm
  have w : ∀ {u v : Sq}, u.a ≠ u.b → v.a ≠ v.b → ¬ wrongQ u v = true := fun hu hv h => by
    rcases wrongQ_iff.1 h with h | h
    · exact hu h
    · exact hv h
  have q1 : meetQ t.turn s = meetQ s t := meet_ext ht' hs hs ht (fun x => by rw [on_turn]; exact And.comm)
  have q2 : meetQ t s.turn = meetQ s t := meet_ext ht hs' hs ht (fun x => by rw [on_turn]; exact And.comm)
  have hB : meetB s t = (meetQ s t).isSome := by unfold meetB; rw [if_neg (w hs ht)]
  have hS : meetS s t = (meetQ s t).getD Sq.zero := by unfold meetS; rw [if_neg (w hs ht)]
  have ho : ∀ x, (onQ s x && onQ t x) = (meetB s t && onQ (meetS s t) x) := by
    intro x
    have h := meet_on hs ht x
    rw [Bool.eq_iff_iff, Bool.and_eq_true, Bool.and_eq_true, on_iff, on_iff, on_iff, h, hB, hS]
    cases e : meetQ s t with
    | none => simp
    | some m => simp
  refine ⟨by unfold meetE; rw [if_neg (w hs ht)], by unfold meetE; rw [if_neg (w ht' hs)], by unfold meetE; rw [if_neg (w ht hs')], ?_, ?_, ?_, ?_, ho, ?_⟩
  · rw [hB]; unfold meetB; rw [if_neg (w ht' hs), q1]
  · rw [hB]; unfold meetB; rw [if_neg (w ht hs'), q2]
  · rw [hS]; unfold meetS; rw [if_neg (w ht' hs), q1]
  · rw [hS]; unfold meetS; rw [if_neg (w ht hs'), q2]
  · intro h
    have ha := ho (meetS s t).a
    have hb := ho (meetS s t).b
    have g1 : onQ (meetS s t) (meetS s t).a = true := (on_iff _ _).2 at_on.1
    have g2 : onQ (meetS s t) (meetS s t).b = true := (on_iff _ _).2 at_on.2
    rw [h, g1] at ha
    rw [h, g2] at hb
    simp at ha hb
    refine ⟨ha.1, hb.1, ha.2, hb.2, ?_⟩
    rw [hB] at h
    cases e : meetQ s t with
    | none => rw [e] at h; cases h
    | some m =>
      rw [hS, e]
      exact leP_cmp.2 (meet_le e)
theorem nev_S {t : TypeId} {p q : Sg} (h : p = q) : Env.std.bn (Env.std.eqv t p.c q.c) = false := by
  have : Env.std.eqv t p.c q.c = true := (eqc_S p q).2 h
  rw [s_bn, this]; rfl

theorem segmentCommon_con (s t : Sg) (p : Pt) : Con Tryz.prog 4 [.v s.v, .v t.v, .v p.v] (.v (.bool true)) := by
  have kg := great_con [s.a, s.b, t.a, t.b, p] (by simp)
  obtain ⟨g, hg⟩ : ∃ g, g = bigL [s.a, s.b, t.a, t.b, p] := ⟨_, rfl⟩
  rw [← hg] at kg
  have kts := turned_con s
  have ktt := turned_con t
  by_cases hbig : g = true
  · refine Con.of ttOk mixed Tryz.func4 { ord := [(4, (.op 0 (.op 2 (.br 1 (.br 3 (.op 4 (.op 5 (.op 6 (.op 7 (.op 8 (.op 9 (.op 10 (.op 11 .nil)))))))) (.br 8 (.op 3 (.op 4 (.op 5 (.op 6 (.op 7 (.op 9 (.op 10 (.op 11 .nil)))))))) .stop)) (.br 8 (.op 1 (.op 3 (.op 4 (.op 5 (.op 6 (.op 7 (.op 9 (.op 10 (.op 11 .nil))))))))) .stop))))), (5, (.op 0 (.op 1 (.br 2 (.br 3 (.op 4 (.op 5 (.op 6 (.op 7 (.op 8 (.op 9 (.op 10 (.op 11 .nil)))))))) (.br 8 (.op 3 (.op 4 (.op 5 (.op 6 (.op 7 (.op 9 (.op 10 (.op 11 .nil)))))))) .stop)) (.br 8 (.op 2 (.op 3 (.op 4 (.op 5 (.op 6 (.op 7 (.op 9 (.op 10 (.op 11 .nil))))))))) .stop)))))] } .nil 0 (by kernel_rfl) (fun P' E hP hE => ?_)
    cbv
    refine CallTo.w hP hE kg ⟨⟨cP_ok, rfl, rfl, by decide⟩, trivial⟩ ?_
    cbv
    refine fork.yes hbig ?_
    cbv
    refine awake_c hP hE ?_
    cbv
  · have h1 : g = false := by simpa using hbig
    have hb := bigL_is (hg.symm.trans h1)
    have hsa : IsP 40 s.a s.q.a := hb s.a (by simp)
    have hsb : IsP 40 s.b s.q.b := hb s.b (by simp)
    have hta : IsP 40 t.a t.q.a := hb t.a (by simp)
    have htb : IsP 40 t.b t.q.b := hb t.b (by simp)
    have hp := hb p (by simp)
    have hs : IsS 40 s s.q := ⟨hsa, hsb⟩
    have ht : IsS 40 t t.q := ⟨hta, htb⟩
    have hut : IsS 40 ⟨t.b, t.a⟩ t.q.turn := ⟨htb, hta⟩
    have hus : IsS 40 ⟨s.b, s.a⟩ s.q.turn := ⟨hsb, hsa⟩
    obtain ⟨m, b1, e1, em, hm, eb1, ee1, km⟩ := smeet_p hs ht (by decide)
    obtain ⟨n, b2, e2, en, hn, eb2, ee2, kn⟩ := smeet_p hut hs (by decide)
    obtain ⟨o, b3, e3, eo, ho, eb3, ee3, ko⟩ := smeet_p ht hus (by decide)
    have hma := hm.a
    have hmb := hm.b
    clear hb hbig hg
    refine Con.of ttOk mixed Tryz.func4 { ord := [(4, (.op 0 (.op 2 (.br 1 (.br 3 (.op 4 (.op 5 (.op 6 (.op 7 (.op 8 (.op 9 (.op 10 (.op 11 .nil)))))))) (.br 8 (.op 3 (.op 4 (.op 5 (.op 6 (.op 7 (.op 9 (.op 10 (.op 11 .nil)))))))) .stop)) (.br 8 (.op 1 (.op 3 (.op 4 (.op 5 (.op 6 (.op 7 (.op 9 (.op 10 (.op 11 .nil))))))))) .stop))))), (5, (.op 0 (.op 1 (.br 2 (.br 3 (.op 4 (.op 5 (.op 6 (.op 7 (.op 8 (.op 9 (.op 10 (.op 11 .nil)))))))) (.br 8 (.op 3 (.op 4 (.op 5 (.op 6 (.op 7 (.op 9 (.op 10 (.op 11 .nil)))))))) .stop)) (.br 8 (.op 2 (.op 3 (.op 4 (.op 5 (.op 6 (.op 7 (.op 9 (.op 10 (.op 11 .nil))))))))) .stop)))))] } .nil 0 (by kernel_rfl) (fun P' E hP hE => ?_)
    cbv
    refine CallTo.w hP hE kg ⟨⟨cP_ok, rfl, rfl, by decide⟩, trivial⟩ ?_
    cbv
    refine fork.no h1 ?_
    cbv
    refine schk_c hP hE (by assumption) (by omega) ?_
    intro c1 ec1
    cbv
    refine fork.mk ?_ ?_
    · intro g1
      cbv
      refine awake_c hP hE ?_
      cbv
    · intro g1
      have hn1 : s.q.a ≠ s.q.b := by
        subst hE
        simp [Env.std] at g1
        rw [ec1] at g1
        exact fun e => absurd g1 (chkQ_iff.2 e)
      cbv
      refine schk_c hP hE (by assumption) (by omega) ?_
      intro c2 ec2
      cbv
      refine fork.mk ?_ ?_
      · intro g2
        cbv
        refine awake_c hP hE ?_
        cbv
      · intro g2
        have hn2 : t.q.a ≠ t.q.b := by
          subst hE
          simp [Env.std] at g2
          rw [ec2] at g2
          exact fun e => absurd g2 (chkQ_iff.2 e)
        have F := common_facts hn1 hn2
        have f1 := F.1
        have f2 := F.2.1
        have f3 := F.2.2.1
        have f4 := F.2.2.2.1
        have f5 := F.2.2.2.2.1
        have f6 := F.2.2.2.2.2.1
        have f7 := F.2.2.2.2.2.2.1
        have f8 := F.2.2.2.2.2.2.2.1
        have f9 := F.2.2.2.2.2.2.2.2
        clear F
        cbv
        refine CallTo.w hP hE km ⟨rfl, rfl, trivial⟩ ?_
        cbv
        refine DrawTo.byU [(10, .p 8 0), (11, .v (.bool b2)), (12, .v (.int .i64 e2))] [.cells n.av 27] ?_ ?_
        · cbv
          repeat' first
            | exact True.intro
            | (refine Both.mk ?_ ?_ <;> cbv)
            | (refine CallTo.w hP hE ktt ⟨rfl, trivial⟩ ?_; cbv)
            | (refine CallTo.w hP hE kn ⟨rfl, rfl, trivial⟩ ?_; cbv)
            | (simp only [and_self]; done)
        cbv
        refine DrawTo.byU [(13, .p 9 0), (14, .v (.bool b3)), (15, .v (.int .i64 e3))] [.cells o.av 27] ?_ ?_
        · cbv
          repeat' first
            | exact True.intro
            | (refine Both.mk ?_ ?_ <;> cbv)
            | (refine CallTo.w hP hE kts ⟨rfl, trivial⟩ ?_; cbv)
            | (refine CallTo.w hP hE ko ⟨rfl, rfl, trivial⟩ ?_; cbv)
            | (simp only [and_self]; done)
        cbv
        refine fork.no (by subst hE; simp [Env.std, ee1, f1]) ?_
        cbv
        refine fork.no (by subst hE; simp [Env.std, ee2, f2]) ?_
        cbv
        refine fork.no (by subst hE; simp [Env.std, ee3, f3]) ?_
        cbv
        refine fork.no (by subst hE; simp [Env.std, eb1, eb2, f4]) ?_
        cbv
        refine fork.no (by subst hE; simp [Env.std, eb1, eb3, f5]) ?_
        cbv
        have q6 : m = n := by rw [em, en, f6]
        have q7 : m = o := by rw [em, eo, f7]
        refine fork.no (by subst hE; exact nev_S (t := 0) q6) ?_
        cbv
        refine fork.no (by subst hE; exact nev_S (t := 0) q7) ?_
        cbv
        refine fork.mk ?_ ?_
        · intro hb1
          have f9 := f9 (eb1.symm.trans hb1)
          cbv
          refine son2_c hP hE hs hma (by omega) ?_
          intro v1 ev1
          cbv
          refine fork.no (by subst hE; simp [Env.std, ev1, f9.1]) ?_
          cbv
          refine son2_c hP hE hs hmb (by omega) ?_
          intro v2 ev2
          cbv
          refine fork.no (by subst hE; simp [Env.std, ev2, f9.2.1]) ?_
          cbv
          refine son2_c hP hE ht hma (by omega) ?_
          intro v3 ev3
          cbv
          refine fork.no (by subst hE; simp [Env.std, ev3, f9.2.2.1]) ?_
          cbv
          refine son2_c hP hE ht hmb (by omega) ?_
          intro v4 ev4
          cbv
          refine fork.no (by subst hE; simp [Env.std, ev4, f9.2.2.2.1]) ?_
          cbv
          refine vcmp_c hP hE hma hmb (by omega) ?_
          intro v5 ev5
          cbv
          refine fork.no (by subst hE; simp [Env.std, ev5]; exact f9.2.2.2.2) ?_
          cbv
          refine LoopTo.by (ι := Nat) (fun i => [(143, .c (.int .i64 (i : Int)))]) (fun i => []) (fun i => i ≤ 5) (fun i => 5 - i) 0 [] (by decide) ?_ (all6 ?_ ?_ ?_ ?_ ?_ ?_)
          · cbv
            and_intros
            all_goals first
              | exact True.intro
              | rfl
              | (simp; done)
          · cbv
            refine son2_c hP hE hs hp (by omega) ?_
            intro w1 ew1
            cbv
            refine fork.mk ?_ ?_
            · intro x1
              cbv
              refine son2_c hP hE ht hp (by omega) ?_
              intro w2 ew2
              cbv
              refine fork.yes hb1 ?_
              cbv
              refine son2_c hP hE hm hp (by omega) ?_
              intro w3 ew3
              cbv
              have F := f8 (p.q)
              refine fork.no (by subst hE; simp [Env.std, ew1, ew2, ew3, ← eb1, hb1] at *; try simp_all) ?_
              cbv
              refine ⟨1, [], by decide, by decide, ?_⟩
              cbv
              simp only [and_self]
            · intro x1
              cbv
              refine fork.yes hb1 ?_
              cbv
              refine son2_c hP hE hm hp (by omega) ?_
              intro w3 ew3
              cbv
              have F := f8 (p.q)
              refine fork.no (by subst hE; simp [Env.std, ew1, ew3, ← eb1, hb1] at *; try simp_all) ?_
              cbv
              refine ⟨1, [], by decide, by decide, ?_⟩
              cbv
              simp only [and_self]
          · cbv
            refine son2_c hP hE hs hsa (by omega) ?_
            intro w1 ew1
            cbv
            refine fork.mk ?_ ?_
            · intro x1
              cbv
              refine son2_c hP hE ht hsa (by omega) ?_
              intro w2 ew2
              cbv
              refine fork.yes hb1 ?_
              cbv
              refine son2_c hP hE hm hsa (by omega) ?_
              intro w3 ew3
              cbv
              have F := f8 (s.q.a)
              refine fork.no (by subst hE; simp [Env.std, ew1, ew2, ew3, ← eb1, hb1] at *; try simp_all) ?_
              cbv
              refine ⟨2, [], by decide, by decide, ?_⟩
              cbv
              simp only [and_self]
            · intro x1
              cbv
              refine fork.yes hb1 ?_
              cbv
              refine son2_c hP hE hm hsa (by omega) ?_
              intro w3 ew3
              cbv
              have F := f8 (s.q.a)
              refine fork.no (by subst hE; simp [Env.std, ew1, ew3, ← eb1, hb1] at *; try simp_all) ?_
              cbv
              refine ⟨2, [], by decide, by decide, ?_⟩
              cbv
              simp only [and_self]
          · cbv
            refine son2_c hP hE hs hsb (by omega) ?_
            intro w1 ew1
            cbv
            refine fork.mk ?_ ?_
            · intro x1
              cbv
              refine son2_c hP hE ht hsb (by omega) ?_
              intro w2 ew2
              cbv
              refine fork.yes hb1 ?_
              cbv
              refine son2_c hP hE hm hsb (by omega) ?_
              intro w3 ew3
              cbv
              have F := f8 (s.q.b)
              refine fork.no (by subst hE; simp [Env.std, ew1, ew2, ew3, ← eb1, hb1] at *; try simp_all) ?_
              cbv
              refine ⟨3, [], by decide, by decide, ?_⟩
              cbv
              simp only [and_self]
            · intro x1
              cbv
              refine fork.yes hb1 ?_
              cbv
              refine son2_c hP hE hm hsb (by omega) ?_
              intro w3 ew3
              cbv
              have F := f8 (s.q.b)
              refine fork.no (by subst hE; simp [Env.std, ew1, ew3, ← eb1, hb1] at *; try simp_all) ?_
              cbv
              refine ⟨3, [], by decide, by decide, ?_⟩
              cbv
              simp only [and_self]
          · cbv
            refine son2_c hP hE hs hta (by omega) ?_
            intro w1 ew1
            cbv
            refine fork.mk ?_ ?_
            · intro x1
              cbv
              refine son2_c hP hE ht hta (by omega) ?_
              intro w2 ew2
              cbv
              refine fork.yes hb1 ?_
              cbv
              refine son2_c hP hE hm hta (by omega) ?_
              intro w3 ew3
              cbv
              have F := f8 (t.q.a)
              refine fork.no (by subst hE; simp [Env.std, ew1, ew2, ew3, ← eb1, hb1] at *; try simp_all) ?_
              cbv
              refine ⟨4, [], by decide, by decide, ?_⟩
              cbv
              simp only [and_self]
            · intro x1
              cbv
              refine fork.yes hb1 ?_
              cbv
              refine son2_c hP hE hm hta (by omega) ?_
              intro w3 ew3
              cbv
              have F := f8 (t.q.a)
              refine fork.no (by subst hE; simp [Env.std, ew1, ew3, ← eb1, hb1] at *; try simp_all) ?_
              cbv
              refine ⟨4, [], by decide, by decide, ?_⟩
              cbv
              simp only [and_self]
          · cbv
            refine son2_c hP hE hs htb (by omega) ?_
            intro w1 ew1
            cbv
            refine fork.mk ?_ ?_
            · intro x1
              cbv
              refine son2_c hP hE ht htb (by omega) ?_
              intro w2 ew2
              cbv
              refine fork.yes hb1 ?_
              cbv
              refine son2_c hP hE hm htb (by omega) ?_
              intro w3 ew3
              cbv
              have F := f8 (t.q.b)
              refine fork.no (by subst hE; simp [Env.std, ew1, ew2, ew3, ← eb1, hb1] at *; try simp_all) ?_
              cbv
              refine ⟨5, [], by decide, by decide, ?_⟩
              cbv
              simp only [and_self]
            · intro x1
              cbv
              refine fork.yes hb1 ?_
              cbv
              refine son2_c hP hE hm htb (by omega) ?_
              intro w3 ew3
              cbv
              have F := f8 (t.q.b)
              refine fork.no (by subst hE; simp [Env.std, ew1, ew3, ← eb1, hb1] at *; try simp_all) ?_
              cbv
              refine ⟨5, [], by decide, by decide, ?_⟩
              cbv
              simp only [and_self]
          · cbv
            refine awake_c hP hE ?_
            cbv
        · intro hb1
          cbv
          refine LoopTo.by (ι := Nat) (fun i => [(143, .c (.int .i64 (i : Int)))]) (fun i => []) (fun i => i ≤ 5) (fun i => 5 - i) 0 [] (by decide) ?_ (all6 ?_ ?_ ?_ ?_ ?_ ?_)
          · cbv
            and_intros
            all_goals first
              | exact True.intro
              | rfl
              | (simp; done)
          · cbv
            refine son2_c hP hE hs hp (by omega) ?_
            intro w1 ew1
            cbv
            refine fork.mk ?_ ?_
            · intro x1
              cbv
              refine son2_c hP hE ht hp (by omega) ?_
              intro w2 ew2
              cbv
              refine fork.no hb1 ?_
              cbv
              have F := f8 (p.q)
              refine fork.no (by subst hE; simp [Env.std, ew1, ew2, ← eb1, hb1] at *; try simp_all) ?_
              cbv
              refine ⟨1, [], by decide, by decide, ?_⟩
              cbv
              simp only [and_self]
            · intro x1
              cbv
              refine fork.no hb1 ?_
              cbv
              have F := f8 (p.q)
              refine fork.no (by subst hE; simp [Env.std, ew1, ← eb1, hb1] at *; try simp_all) ?_
              cbv
              refine ⟨1, [], by decide, by decide, ?_⟩
              cbv
              simp only [and_self]
          · cbv
            refine son2_c hP hE hs hsa (by omega) ?_
            intro w1 ew1
            cbv
            refine fork.mk ?_ ?_
            · intro x1
              cbv
              refine son2_c hP hE ht hsa (by omega) ?_
              intro w2 ew2
              cbv
              refine fork.no hb1 ?_
              cbv
              have F := f8 (s.q.a)
              refine fork.no (by subst hE; simp [Env.std, ew1, ew2, ← eb1, hb1] at *; try simp_all) ?_
              cbv
              refine ⟨2, [], by decide, by decide, ?_⟩
              cbv
              simp only [and_self]
            · intro x1
              cbv
              refine fork.no hb1 ?_
              cbv
              have F := f8 (s.q.a)
              refine fork.no (by subst hE; simp [Env.std, ew1, ← eb1, hb1] at *; try simp_all) ?_
              cbv
              refine ⟨2, [], by decide, by decide, ?_⟩
              cbv
              simp only [and_self]
          · cbv
            refine son2_c hP hE hs hsb (by omega) ?_
            intro w1 ew1
            cbv
            refine fork.mk ?_ ?_
            · intro x1
              cbv
              refine son2_c hP hE ht hsb (by omega) ?_
              intro w2 ew2
              cbv
              refine fork.no hb1 ?_
              cbv
              have F := f8 (s.q.b)
              refine fork.no (by subst hE; simp [Env.std, ew1, ew2, ← eb1, hb1] at *; try simp_all) ?_
              cbv
              refine ⟨3, [], by decide, by decide, ?_⟩
              cbv
              simp only [and_self]
            · intro x1
              cbv
              refine fork.no hb1 ?_
              cbv
              have F := f8 (s.q.b)
              refine fork.no (by subst hE; simp [Env.std, ew1, ← eb1, hb1] at *; try simp_all) ?_
              cbv
              refine ⟨3, [], by decide, by decide, ?_⟩
              cbv
              simp only [and_self]
          · cbv
            refine son2_c hP hE hs hta (by omega) ?_
            intro w1 ew1
            cbv
            refine fork.mk ?_ ?_
            · intro x1
              cbv
              refine son2_c hP hE ht hta (by omega) ?_
              intro w2 ew2
              cbv
              refine fork.no hb1 ?_
              cbv
              have F := f8 (t.q.a)
              refine fork.no (by subst hE; simp [Env.std, ew1, ew2, ← eb1, hb1] at *; try simp_all) ?_
              cbv
              refine ⟨4, [], by decide, by decide, ?_⟩
              cbv
              simp only [and_self]
            · intro x1
              cbv
              refine fork.no hb1 ?_
              cbv
              have F := f8 (t.q.a)
              refine fork.no (by subst hE; simp [Env.std, ew1, ← eb1, hb1] at *; try simp_all) ?_
              cbv
              refine ⟨4, [], by decide, by decide, ?_⟩
              cbv
              simp only [and_self]
          · cbv
            refine son2_c hP hE hs htb (by omega) ?_
            intro w1 ew1
            cbv
            refine fork.mk ?_ ?_
            · intro x1
              cbv
              refine son2_c hP hE ht htb (by omega) ?_
              intro w2 ew2
              cbv
              refine fork.no hb1 ?_
              cbv
              have F := f8 (t.q.b)
              refine fork.no (by subst hE; simp [Env.std, ew1, ew2, ← eb1, hb1] at *; try simp_all) ?_
              cbv
              refine ⟨5, [], by decide, by decide, ?_⟩
              cbv
              simp only [and_self]
            · intro x1
              cbv
              refine fork.no hb1 ?_
              cbv
              have F := f8 (t.q.b)
              refine fork.no (by subst hE; simp [Env.std, ew1, ← eb1, hb1] at *; try simp_all) ?_
              cbv
              refine ⟨5, [], by decide, by decide, ?_⟩
              cbv
              simp only [and_self]
          · cbv
            refine awake_c hP hE ?_
            cbv
end Go.Proofs.YtfdealobplcboaaGreat.Sx
