/- Part 6 of what the statement needs: an executor of Go texts, arithmetic, and contracts of the functions that are called. -/
import Derived.Test.YtfdealobplcboaaGreatCp5
/- SegmentPairs: the walk. -/
set_option linter.unusedVariables false
set_option linter.unusedSimpArgs false
set_option maxRecDepth 100000
set_option maxHeartbeats 16000000
namespace Go.Proofs.YtfdealobplcboaaGreat.Sx

theorem segmentPairs_con (s t : Sg) (p : Pt) : Con Tryz.prog 7 [.v s.v, .v t.v, .v p.v] (.v (.bool true)) := by
  have kg := great_con [s.a, s.b, t.a, t.b, p] (by simp)
  obtain ⟨g, hg⟩ : ∃ g, g = bigL [s.a, s.b, t.a, t.b, p] := ⟨_, rfl⟩
  rw [← hg] at kg
  by_cases hbig : g = true
  · refine Con.of ttOk mixed Tryz.func7 { ord := [(7, [0, 2, 1, 3, 4, 5, 6, 8, 7, 9, 10, 11, 12, 13, 14, 16, 17, 15, 18, 19, 20, 21, 22, 23, 25, 26, 24, 27, 28, 29, 30, 31, 32, 33, 34, 35, 36, 37, 38, 39, 40, 41, 42, 43, 44, 45, 46, 47, 48, 49, 50, 51, 52, 53, 54, 55, 56, 57, 58])] } .nil 0 (by kernel_rfl) (fun P' E hP hE => ?_)
    cbv
    refine CallTo.w hP hE kg ⟨⟨cP_ok, rfl, rfl, by decide⟩, trivial⟩ ?_
    cbv
    refine fork.yes hbig ?_
    cbv
    refine awake_c hP hE ?_
    cbv
  · have h1 : g = false := by simpa using hbig
    have hb := bigL_is (hg.symm.trans h1)
    have hsa : IsP 40 s.a s.q.a := hb s.a (by simp)
    have hsb : IsP 40 s.b s.q.b := hb s.b (by simp)
    have hta : IsP 40 t.a t.q.a := hb t.a (by simp)
    have htb : IsP 40 t.b t.q.b := hb t.b (by simp)
    have hp := hb p (by simp)
    have hs : IsS 40 s s.q := ⟨hsa, hsb⟩
    have ht : IsS 40 t t.q := ⟨hta, htb⟩
    obtain ⟨m, b1, e1, em, hm, eb1, ee1, km⟩ := smeet_p hs ht (by decide)
    obtain ⟨n, b2, e2, en, hn, eb2, ee2, kn⟩ := ymeet_p hs ht (by decide)
    obtain ⟨u, e3, eu, hu, ee3, ku⟩ := sjoin_p hs ht (by decide)
    obtain ⟨v, e4, ev, hv, ee4, kv⟩ := yjoin_p hs ht (by decide)
    obtain ⟨c1, ec1, kc1⟩ := schk_p hs (by decide)
    obtain ⟨c2, ec2, kc2⟩ := ychk_p hs (by decide)
    obtain ⟨o1, eo1, ho1, ko1⟩ := sord_p hs (by decide)
    obtain ⟨o2, eo2, ho2, ko2⟩ := yord_p hs (by decide)
    obtain ⟨w1, ew1, kw1⟩ := son_p hs hp (by decide)
    obtain ⟨w2, ew2, kw2⟩ := yon_p hs hp (by decide)
    obtain ⟨x1, ex1, kx1⟩ := scross_p hs ht (by decide)
    obtain ⟨x2, ex2, kx2⟩ := ycross8_p hs ht (by decide)
    have q1 : c1 = c2 := by rw [ec1, ec2]
    have q2 : o1 = o2 := by rw [eo1, eo2]
    have q3 : w1 = w2 := by rw [ew1, ew2, onR_eq]
    have q4 : x1 = x2 := by rw [ex1, ex2, crossR_eq]
    have q5 : m = n := by rw [em, en]
    have q6 : b1 = b2 := by rw [eb1, eb2]
    have q7 : e1 = e2 := by rw [ee1, ee2]
    have q8 : u = v := by rw [eu, ev]
    have q9 : e3 = e4 := by rw [ee3, ee4]
    clear hb hbig hg em hm eb1 ee1 en hn eb2 ee2 eu hu ee3 ev hv ee4 ec1 ec2 eo1 ho1 eo2 ho2 ew1 ew2 ex1 ex2
    refine Con.of ttOk mixed Tryz.func7 { ord := [(7, [0, 2, 1, 3, 4, 5, 6, 8, 7, 9, 10, 11, 12, 13, 14, 16, 17, 15, 18, 19, 20, 21, 22, 23, 25, 26, 24, 27, 28, 29, 30, 31, 32, 33, 34, 35, 36, 37, 38, 39, 40, 41, 42, 43, 44, 45, 46, 47, 48, 49, 50, 51, 52, 53, 54, 55, 56, 57, 58])] } .nil 0 (by kernel_rfl) (fun P' E hP hE => ?_)
    cbv
    refine CallTo.w hP hE kg ⟨⟨cP_ok, rfl, rfl, by decide⟩, trivial⟩ ?_
    cbv
    refine fork.no h1 ?_
    cbv
    refine CallTo.w hP hE km ⟨rfl, rfl, trivial⟩ ?_
    cbv
    refine CallTo.w hP hE kn ⟨rfl, rfl, trivial⟩ ?_
    cbv
    refine CallTo.w hP hE ku ⟨rfl, rfl, trivial⟩ ?_
    cbv
    refine CallTo.w hP hE kv ⟨rfl, rfl, trivial⟩ ?_
    cbv
    refine CallTo.w hP hE kc1 ⟨rfl, trivial⟩ ?_
    cbv
    refine CallTo.w hP hE kc2 ⟨rfl, trivial⟩ ?_
    cbv
    refine fork.yes (by subst hE; exact decide_eq_true q1) ?_
    cbv
    refine CallTo.w hP hE ko1 ⟨rfl, trivial⟩ ?_
    cbv
    refine CallTo.w hP hE ko2 ⟨rfl, trivial⟩ ?_
    cbv
    refine fork.yes (by subst hE; exact (eqc_S o1 o2).2 q2) ?_
    cbv
    refine CallTo.w hP hE kw1 ⟨rfl, rfl, trivial⟩ ?_
    cbv
    refine CallTo.w hP hE kw2 ⟨rfl, rfl, trivial⟩ ?_
    cbv
    refine fork.yes (by subst hE; simp [Env.std, q3]) ?_
    cbv
    refine CallTo.w hP hE kx1 ⟨rfl, rfl, trivial⟩ ?_
    cbv
    refine CallTo.w hP hE kx2 ⟨rfl, rfl, trivial⟩ ?_
    cbv
    refine fork.yes (by subst hE; simp [Env.std, q4]) ?_
    cbv
    refine fork.yes (by subst hE; exact (eqc_S m n).2 q5) ?_
    cbv
    refine fork.yes (by subst hE; simp [Env.std, q6]) ?_
    cbv
    refine fork.yes (by subst hE; simp [Env.std, q7]) ?_
    cbv
    refine fork.yes (by subst hE; exact (eqc_S u v).2 q8) ?_
    cbv
    refine fork.yes (by subst hE; simp [Env.std, q9]) ?_
    cbv
    refine awake_c hP hE ?_
    cbv
end Go.Proofs.YtfdealobplcboaaGreat.Sx
