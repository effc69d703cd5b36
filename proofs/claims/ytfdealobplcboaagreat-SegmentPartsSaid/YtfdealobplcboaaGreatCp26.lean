/- Part 26 of what the statement needs: an executor of Go texts, arithmetic, and contracts of the functions that are called. -/
import Derived.Test.YtfdealobplcboaaGreatCp19
import Derived.Test.YtfdealobplcboaaGreatCp23
import Derived.Test.YtfdealobplcboaaGreatCp24
import Derived.Test.YtfdealobplcboaaGreatCp25
set_option linter.unusedVariables false
set_option linter.unusedSimpArgs false
set_option maxRecDepth 100000
set_option maxHeartbeats 16000000
namespace Go.Proofs.YtfdealobplcboaaGreat.Sx
theorem tk_all {α : Type} (l : List α) : Env.std.tk α l (Env.std.len α l) = l := by
 rw [s_tk, s_len]; exact List.take_of_length_le (by omega)
theorem segmentParts_con (s : Sg) (x : R) (b : Bx) (l : List Pt) (hl : l.length <= maxLen) : Con Tryz.prog 13 [.v s.v, .v x.v, .v b.v, .ro cP l] (.v (.bool true)) := by
 have kg := great_con [s.a, s.b, b.lo, b.hi, ⟨x, ⟨false, ⟨#[]⟩, ⟨#[]⟩⟩⟩] (by simp)
 obtain ⟨g, hg⟩ : ∃ g, g = bigL [s.a, s.b, b.lo, b.hi, ⟨x, ⟨false, ⟨#[]⟩, ⟨#[]⟩⟩⟩] := ⟨_, rfl⟩
 rw [<- hg] at kg
 by_cases hbig : g = true
 ·refine Con.of ttOk mixed Tryz.func13 {} .nil 0 (by kernel_rfl) (fun P' E hP hE => ?_)
  cbv
  refine CallTo.w hP hE kg ⟨⟨cP_ok, rfl, rfl, by decide⟩, trivial⟩ ?_
  cbv
  refine fork.yes hbig ?_
  cbv
  refine awake_c hP hE ?_
  cbv
 ·have h1 : g = false := by simpa using hbig
  by_cases h8 : 8 < l.length
  ·by_cases h1000 : l.length <= 1000
   ·have h8y : Env.std.ic .gtr (Env.std.len Pt l) 8 = true := by rw [s_gtr, s_len]; exact decide_eq_true (by omega)
    have hky : Env.std.ic .leq (Env.std.len Pt l) 1000 = true := by rw [s_leq, s_len]; exact decide_eq_true (by omega)
  
    refine Con.of ttOk mixed Tryz.func13 {} .nil 0 (by kernel_rfl) (fun P' E hP hE => ?_)
    cbv
    refine CallTo.w hP hE kg ⟨⟨cP_ok, rfl, rfl, by decide⟩, trivial⟩ ?_
    cbv
    refine fork.no h1 ?_
    cbv
    refine fork.yes (by subst hE; exact h8y) ?_
    cbv
    refine fork.yes (by subst hE; exact hky) ?_
    cbv
    refine awake_c hP hE ?_
    cbv
   ·by_cases h1010 : 1010 < l.length
    ·have h8y : Env.std.ic .gtr (Env.std.len Pt l) 8 = true := by rw [s_gtr, s_len]; exact decide_eq_true (by omega)
     have hkn : Env.std.ic .leq (Env.std.len Pt l) 1000 = false := by rw [s_leq, s_len]; exact decide_eq_false (by omega)
     have hty : Env.std.ic .gtr (Env.std.len Pt l) 1010 = true := by rw [s_gtr, s_len]; exact decide_eq_true (by omega)
   
     refine Con.of ttOk mixed Tryz.func13 {} .nil 0 (by kernel_rfl) (fun P' E hP hE => ?_)
     cbv
     refine CallTo.w hP hE kg ⟨⟨cP_ok, rfl, rfl, by decide⟩, trivial⟩ ?_
     cbv
     refine fork.no h1 ?_
     cbv
     refine fork.yes (by subst hE; exact h8y) ?_
     cbv
     refine fork.no (by subst hE; exact hkn) ?_
     cbv
     refine fork.yes (by subst hE; exact hty) ?_
     cbv
     refine awake_c hP hE ?_
     cbv
    ·have h8y : Env.std.ic .gtr (Env.std.len Pt l) 8 = true := by rw [s_gtr, s_len]; exact decide_eq_true (by omega)
     have hkn : Env.std.ic .leq (Env.std.len Pt l) 1000 = false := by rw [s_leq, s_len]; exact decide_eq_false (by omega)
     have htn : Env.std.ic .gtr (Env.std.len Pt l) 1010 = false := by rw [s_gtr, s_len]; exact decide_eq_false (by omega)
     have kg2 := great_con l (by omega)
     obtain ⟨g2, hg2⟩ : ∃ g, g = bigL l := ⟨_, rfl⟩
     rw [<- hg2] at kg2
     by_cases hbig2 : g2 = true
     ·refine Con.of ttOk mixed Tryz.func13 {} .nil 0 (by kernel_rfl) (fun P' E hP hE => ?_)
      cbv
      refine CallTo.w hP hE kg ⟨⟨cP_ok, rfl, rfl, by decide⟩, trivial⟩ ?_
      cbv
      refine fork.no h1 ?_
      cbv
      refine fork.yes (by subst hE; exact h8y) ?_
      cbv
      refine fork.no (by subst hE; exact hkn) ?_
      cbv
      refine fork.no (by subst hE; exact htn) ?_
      cbv
      refine CallTo.w hP hE kg2 ⟨(by subst hE; exact Sm.of (c := cP) (tk_all (α := Pt) l)), trivial⟩ ?_
      cbv
      refine fork.yes hbig2 ?_
      cbv
      refine awake_c hP hE ?_
      cbv
     ·have g2n : g2 = false := by simpa using hbig2
      have hok : splitE s.q l.length ≠ 0 := by
       unfold splitE; split
       ·decide
       ·rw [if_pos (by omega)]; decide
      have hbl := bigL_is (hg.symm.trans h1)
      have hsa : IsP 40 s.a s.q.a := hbl s.a (by simp)
      have hsb : IsP 40 s.b s.q.b := hbl s.b (by simp)
      have hlo : IsP 40 b.lo b.q.lo := hbl b.lo (by simp)
      have hhi : IsP 40 b.hi b.q.hi := hbl b.hi (by simp)
      have hx : Is 40 x x.q := (hbl ⟨x, ⟨false, ⟨#[]⟩, ⟨#[]⟩⟩⟩ (by simp)).x
      have hs : IsS 40 s s.q := ⟨hsa, hsb⟩
      have hb : IsB 40 b b.q := ⟨hlo, hhi⟩
      have hp := bigL_is (hg2.symm.trans g2n)
      obtain ⟨y1, e1, ey1, hy1, ee1, ky1⟩ := height_p hs hx (by decide)
      obtain ⟨y2, e2, ey2, hy2, ee2, ky2⟩ := yhgt_p hs hx (by decide)
      obtain ⟨c1, b1, f1, ec1, hc1, eb1, ef1, kc1⟩ := clip_p hs hb (by decide)
      obtain ⟨c2, b2, f2, ec2, hc2, eb2, ef2, kc2⟩ := yclip_p hs hb (by decide)
      obtain ⟨n1, d1, en1, hn1, ed1, kn1⟩ := near_p hs hlo (by decide)
      obtain ⟨n2, d2, en2, hn2, ed2, kn2⟩ := ynear_p hs hlo (by decide)
      have q1 : y1 = y2 := by rw [ey1, ey2]
      have q2 : e1 = e2 := by rw [ee1, ee2]
      have q3 : c1 = c2 := by rw [ec1, ec2]
      have q4 : b1 = b2 := by rw [eb1, eb2]
      have q5 : f1 = f2 := by rw [ef1, ef2]
      have q6 : n1 = n2 := by rw [en1, en2]
      have q7 : d1 = d2 := by rw [ed1, ed2]
      obtain ⟨rs, hrs⟩ : ∃ r, r = (splitL s.q (l.map Pt.q)).map crS := ⟨_, rfl⟩
      obtain ⟨re, hre⟩ : ∃ r, r = splitE s.q l.length := ⟨_, rfl⟩
      have ks2 := ysplit_q hs l hp (by decide) (by omega)
      rw [<- hrs, <- hre] at ks2
      have ks1 := split_bad hs l (by decide) hok
      rw [<- hre] at ks1
      have hrs0 : rs = [] := by rw [hrs, splitL, List.length_map, if_neg hok]; rfl
      have ksame := ysame_q [] (by decide)
      rw [hrs0] at ks2
      clear hbl hg hbig hp hg2 ey1 hy1 ee1 ey2 hy2 ee2 ec1 hc1 eb1 ef1 ec2 hc2 eb2 ef2 en1 hn1 ed1 en2 hn2 ed2 hrs hre hok hrs0 hl
    
      refine Con.of ttOk mixed Tryz.func13 {} .nil 0 (by kernel_rfl) (fun P' E hP hE => ?_)
      cbv
      refine CallTo.w hP hE kg ⟨⟨cP_ok, rfl, rfl, by decide⟩, trivial⟩ ?_
      cbv
      refine fork.no h1 ?_
      cbv
      refine fork.yes (by subst hE; exact h8y) ?_
      cbv
      refine fork.no (by subst hE; exact hkn) ?_
      cbv
      refine fork.no (by subst hE; exact htn) ?_
      cbv
      refine CallTo.w hP hE kg2 ⟨(by subst hE; exact Sm.of (c := cP) (tk_all (α := Pt) l)), trivial⟩ ?_
      cbv
      refine fork.no g2n ?_
      cbv
      refine CallTo.w hP hE ky1 ⟨rfl, rfl, trivial⟩ ?_
      cbv
      refine CallTo.w hP hE ky2 ⟨rfl, rfl, trivial⟩ ?_
      cbv
      refine CallTo.w hP hE kc1 ⟨rfl, rfl, trivial⟩ ?_
      cbv
      refine CallTo.w hP hE kc2 ⟨rfl, rfl, trivial⟩ ?_
      cbv
      refine CallTo.w hP hE kn1 ⟨rfl, rfl, trivial⟩ ?_
      cbv
      refine CallTo.w hP hE kn2 ⟨rfl, rfl, trivial⟩ ?_
      cbv
      refine CallTo.con hP hE ks1 ⟨rfl, (by subst hE; exact Sm.of (c := cP) (tk_all (α := Pt) l)), trivial⟩ ?_
      cbv
      refine CallTo.con hP hE ks2 ⟨rfl, (by subst hE; exact Sm.of (c := cP) (tk_all (α := Pt) l)), trivial⟩ ?_
      cbv
      refine fork.yes (by subst hE; exact (eqc_R y1 y2).2 q1) ?_
      cbv
      refine fork.yes (by subst hE; simp [Env.std, q2]) ?_
      cbv
      refine fork.yes (by subst hE; exact (eqc_S c1 c2).2 q3) ?_
      cbv
      refine fork.yes (by subst hE; simp [Env.std, q4]) ?_
      cbv
      refine fork.yes (by subst hE; simp [Env.std, q5]) ?_
      cbv
      refine fork.yes (by subst hE; exact (eqc_P n1 n2).2 q6) ?_
      cbv
      refine fork.yes (by subst hE; simp [Env.std, q7]) ?_
      cbv
      refine CallTo.w hP hE ksame ⟨⟨rfl, rfl, cS_ok⟩, (by subst hE; exact Sm.of (c := cS) (tk_all (α := Sg) [])), trivial⟩ ?_
      cbv
      refine fork.yes rfl ?_
      cbv
      refine fork.yes (by subst hE; simp [Env.std]) ?_
      cbv
      refine awake_c hP hE ?_
      cbv
  ·have h8n : Env.std.ic .gtr (Env.std.len Pt l) 8 = false := by rw [s_gtr, s_len]; exact decide_eq_false (by omega)
   have htn : Env.std.ic .gtr (Env.std.len Pt l) 1010 = false := by rw [s_gtr, s_len]; exact decide_eq_false (by omega)
   have kg2 := great_con l (by omega)
   obtain ⟨g2, hg2⟩ : ∃ g, g = bigL l := ⟨_, rfl⟩
   rw [<- hg2] at kg2
   by_cases hbig2 : g2 = true
   ·refine Con.of ttOk mixed Tryz.func13 {} .nil 0 (by kernel_rfl) (fun P' E hP hE => ?_)
    cbv
    refine CallTo.w hP hE kg ⟨⟨cP_ok, rfl, rfl, by decide⟩, trivial⟩ ?_
    cbv
    refine fork.no h1 ?_
    cbv
    refine fork.no (by subst hE; exact h8n) ?_
    cbv
    refine fork.no (by subst hE; exact htn) ?_
    cbv
    refine CallTo.w hP hE kg2 ⟨(by subst hE; exact Sm.of (c := cP) (tk_all (α := Pt) l)), trivial⟩ ?_
    cbv
    refine fork.yes hbig2 ?_
    cbv
    refine awake_c hP hE ?_
    cbv
   ·have g2n : g2 = false := by simpa using hbig2
    by_cases hok : splitE s.q l.length = 0
    ·have hbl := bigL_is (hg.symm.trans h1)
     have hsa : IsP 40 s.a s.q.a := hbl s.a (by simp)
     have hsb : IsP 40 s.b s.q.b := hbl s.b (by simp)
     have hlo : IsP 40 b.lo b.q.lo := hbl b.lo (by simp)
     have hhi : IsP 40 b.hi b.q.hi := hbl b.hi (by simp)
     have hx : Is 40 x x.q := (hbl ⟨x, ⟨false, ⟨#[]⟩, ⟨#[]⟩⟩⟩ (by simp)).x
     have hs : IsS 40 s s.q := ⟨hsa, hsb⟩
     have hb : IsB 40 b b.q := ⟨hlo, hhi⟩
     have hp := bigL_is (hg2.symm.trans g2n)
     obtain ⟨y1, e1, ey1, hy1, ee1, ky1⟩ := height_p hs hx (by decide)
     obtain ⟨y2, e2, ey2, hy2, ee2, ky2⟩ := yhgt_p hs hx (by decide)
     obtain ⟨c1, b1, f1, ec1, hc1, eb1, ef1, kc1⟩ := clip_p hs hb (by decide)
     obtain ⟨c2, b2, f2, ec2, hc2, eb2, ef2, kc2⟩ := yclip_p hs hb (by decide)
     obtain ⟨n1, d1, en1, hn1, ed1, kn1⟩ := near_p hs hlo (by decide)
     obtain ⟨n2, d2, en2, hn2, ed2, kn2⟩ := ynear_p hs hlo (by decide)
     have q1 : y1 = y2 := by rw [ey1, ey2]
     have q2 : e1 = e2 := by rw [ee1, ee2]
     have q3 : c1 = c2 := by rw [ec1, ec2]
     have q4 : b1 = b2 := by rw [eb1, eb2]
     have q5 : f1 = f2 := by rw [ef1, ef2]
     have q6 : n1 = n2 := by rw [en1, en2]
     have q7 : d1 = d2 := by rw [ed1, ed2]
     obtain ⟨rs, hrs⟩ : ∃ r, r = (splitL s.q (l.map Pt.q)).map crS := ⟨_, rfl⟩
     obtain ⟨re, hre⟩ : ∃ r, r = splitE s.q l.length := ⟨_, rfl⟩
     have ks2 := ysplit_q hs l hp (by decide) (by omega)
     rw [<- hrs, <- hre] at ks2
     have ks1 := split_q hs l hp (by decide) (by omega) (by omega) hok
     rw [<- hrs, <- hre] at ks1
     have hrl : rs.length <= 4096 := by rw [hrs, List.length_map]; exact split_len _ _ (by rw [List.length_map]; omega)
     have ksame := ysame_q rs hrl
     clear hbl hg hbig hp hg2 ey1 hy1 ee1 ey2 hy2 ee2 ec1 hc1 eb1 ef1 ec2 hc2 eb2 ef2 en1 hn1 ed1 en2 hn2 ed2 hrs hre hok hrl hl
   
     refine Con.of ttOk mixed Tryz.func13 {} .nil 0 (by kernel_rfl) (fun P' E hP hE => ?_)
     cbv
     refine CallTo.w hP hE kg ⟨⟨cP_ok, rfl, rfl, by decide⟩, trivial⟩ ?_
     cbv
     refine fork.no h1 ?_
     cbv
     refine fork.no (by subst hE; exact h8n) ?_
     cbv
     refine fork.no (by subst hE; exact htn) ?_
     cbv
     refine CallTo.w hP hE kg2 ⟨(by subst hE; exact Sm.of (c := cP) (tk_all (α := Pt) l)), trivial⟩ ?_
     cbv
     refine fork.no g2n ?_
     cbv
     refine CallTo.w hP hE ky1 ⟨rfl, rfl, trivial⟩ ?_
     cbv
     refine CallTo.w hP hE ky2 ⟨rfl, rfl, trivial⟩ ?_
     cbv
     refine CallTo.w hP hE kc1 ⟨rfl, rfl, trivial⟩ ?_
     cbv
     refine CallTo.w hP hE kc2 ⟨rfl, rfl, trivial⟩ ?_
     cbv
     refine CallTo.w hP hE kn1 ⟨rfl, rfl, trivial⟩ ?_
     cbv
     refine CallTo.w hP hE kn2 ⟨rfl, rfl, trivial⟩ ?_
     cbv
     refine CallTo.con hP hE ks1 ⟨rfl, (by subst hE; exact Sm.of (c := cP) (tk_all (α := Pt) l)), trivial⟩ ?_
     cbv
     refine CallTo.con hP hE ks2 ⟨rfl, (by subst hE; exact Sm.of (c := cP) (tk_all (α := Pt) l)), trivial⟩ ?_
     cbv
     refine fork.yes (by subst hE; exact (eqc_R y1 y2).2 q1) ?_
     cbv
     refine fork.yes (by subst hE; simp [Env.std, q2]) ?_
     cbv
     refine fork.yes (by subst hE; exact (eqc_S c1 c2).2 q3) ?_
     cbv
     refine fork.yes (by subst hE; simp [Env.std, q4]) ?_
     cbv
     refine fork.yes (by subst hE; simp [Env.std, q5]) ?_
     cbv
     refine fork.yes (by subst hE; exact (eqc_P n1 n2).2 q6) ?_
     cbv
     refine fork.yes (by subst hE; simp [Env.std, q7]) ?_
     cbv
     refine CallTo.w hP hE ksame ⟨(by subst hE; exact Sm.of (c := cS) (tk_all (α := Sg) rs)), (by subst hE; exact Sm.of (c := cS) (tk_all (α := Sg) rs)), trivial⟩ ?_
     cbv
     refine fork.yes rfl ?_
     cbv
     refine fork.yes (by subst hE; simp [Env.std]) ?_
     cbv
     refine awake_c hP hE ?_
     cbv
    ·have hbl := bigL_is (hg.symm.trans h1)
     have hsa : IsP 40 s.a s.q.a := hbl s.a (by simp)
     have hsb : IsP 40 s.b s.q.b := hbl s.b (by simp)
     have hlo : IsP 40 b.lo b.q.lo := hbl b.lo (by simp)
     have hhi : IsP 40 b.hi b.q.hi := hbl b.hi (by simp)
     have hx : Is 40 x x.q := (hbl ⟨x, ⟨false, ⟨#[]⟩, ⟨#[]⟩⟩⟩ (by simp)).x
     have hs : IsS 40 s s.q := ⟨hsa, hsb⟩
     have hb : IsB 40 b b.q := ⟨hlo, hhi⟩
     have hp := bigL_is (hg2.symm.trans g2n)
     obtain ⟨y1, e1, ey1, hy1, ee1, ky1⟩ := height_p hs hx (by decide)
     obtain ⟨y2, e2, ey2, hy2, ee2, ky2⟩ := yhgt_p hs hx (by decide)
     obtain ⟨c1, b1, f1, ec1, hc1, eb1, ef1, kc1⟩ := clip_p hs hb (by decide)
     obtain ⟨c2, b2, f2, ec2, hc2, eb2, ef2, kc2⟩ := yclip_p hs hb (by decide)
     obtain ⟨n1, d1, en1, hn1, ed1, kn1⟩ := near_p hs hlo (by decide)
     obtain ⟨n2, d2, en2, hn2, ed2, kn2⟩ := ynear_p hs hlo (by decide)
     have q1 : y1 = y2 := by rw [ey1, ey2]
     have q2 : e1 = e2 := by rw [ee1, ee2]
     have q3 : c1 = c2 := by rw [ec1, ec2]
     have q4 : b1 = b2 := by rw [eb1, eb2]
     have q5 : f1 = f2 := by rw [ef1, ef2]
     have q6 : n1 = n2 := by rw [en1, en2]
     have q7 : d1 = d2 := by rw [ed1, ed2]
     obtain ⟨rs, hrs⟩ : ∃ r, r = (splitL s.q (l.map Pt.q)).map crS := ⟨_, rfl⟩
     obtain ⟨re, hre⟩ : ∃ r, r = splitE s.q l.length := ⟨_, rfl⟩
     have ks2 := ysplit_q hs l hp (by decide) (by omega)
     rw [<- hrs, <- hre] at ks2
     have ks1 := split_bad hs l (by decide) hok
     rw [<- hre] at ks1
     have hrs0 : rs = [] := by rw [hrs, splitL, List.length_map, if_neg hok]; rfl
     have ksame := ysame_q [] (by decide)
     rw [hrs0] at ks2
     clear hbl hg hbig hp hg2 ey1 hy1 ee1 ey2 hy2 ee2 ec1 hc1 eb1 ef1 ec2 hc2 eb2 ef2 en1 hn1 ed1 en2 hn2 ed2 hrs hre hok hrs0 hl
   
     refine Con.of ttOk mixed Tryz.func13 {} .nil 0 (by kernel_rfl) (fun P' E hP hE => ?_)
     cbv
     refine CallTo.w hP hE kg ⟨⟨cP_ok, rfl, rfl, by decide⟩, trivial⟩ ?_
     cbv
     refine fork.no h1 ?_
     cbv
     refine fork.no (by subst hE; exact h8n) ?_
     cbv
     refine fork.no (by subst hE; exact htn) ?_
     cbv
     refine CallTo.w hP hE kg2 ⟨(by subst hE; exact Sm.of (c := cP) (tk_all (α := Pt) l)), trivial⟩ ?_
     cbv
     refine fork.no g2n ?_
     cbv
     refine CallTo.w hP hE ky1 ⟨rfl, rfl, trivial⟩ ?_
     cbv
     refine CallTo.w hP hE ky2 ⟨rfl, rfl, trivial⟩ ?_
     cbv
     refine CallTo.w hP hE kc1 ⟨rfl, rfl, trivial⟩ ?_
     cbv
     refine CallTo.w hP hE kc2 ⟨rfl, rfl, trivial⟩ ?_
     cbv
     refine CallTo.w hP hE kn1 ⟨rfl, rfl, trivial⟩ ?_
     cbv
     refine CallTo.w hP hE kn2 ⟨rfl, rfl, trivial⟩ ?_
     cbv
     refine CallTo.con hP hE ks1 ⟨rfl, (by subst hE; exact Sm.of (c := cP) (tk_all (α := Pt) l)), trivial⟩ ?_
     cbv
     refine CallTo.con hP hE ks2 ⟨rfl, (by subst hE; exact Sm.of (c := cP) (tk_all (α := Pt) l)), trivial⟩ ?_
     cbv
     refine fork.yes (by subst hE; exact (eqc_R y1 y2).2 q1) ?_
     cbv
     refine fork.yes (by subst hE; simp [Env.std, q2]) ?_
     cbv
     refine fork.yes (by subst hE; exact (eqc_S c1 c2).2 q3) ?_
     cbv
     refine fork.yes (by subst hE; simp [Env.std, q4]) ?_
     cbv
     refine fork.yes (by subst hE; simp [Env.std, q5]) ?_
     cbv
     refine fork.yes (by subst hE; exact (eqc_P n1 n2).2 q6) ?_
     cbv
     refine fork.yes (by subst hE; simp [Env.std, q7]) ?_
     cbv
     refine CallTo.w hP hE ksame ⟨⟨rfl, rfl, cS_ok⟩, (by subst hE; exact Sm.of (c := cS) (tk_all (α := Sg) [])), trivial⟩ ?_
     cbv
     refine fork.yes rfl ?_
     cbv
     refine fork.yes (by subst hE; simp [Env.std]) ?_
     cbv
     refine awake_c hP hE ?_
     cbv
end Go.Proofs.YtfdealobplcboaaGreat.Sx
