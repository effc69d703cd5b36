/- Part 15 of what the statement needs: an executor of Go texts, arithmetic, and contracts of the functions that are called. -/
import Derived.Test.YtfdealobplcboaaGreatCu14
set_option linter.unusedVariables false
set_option linter.unusedSimpArgs false
set_option maxRecDepth 100000
set_option maxHeartbeats 8000000
namespace Go.Proofs.YtfdealobplcboaaGreat.Sx
theorem smeet_q {a : Sg} {S : Sq} {k : Nat} {b : Sg} {T : Sq} (ha : IsS k a S) (hb : IsS k b T) (h : 40 * k + 40 <= 134217728) : Con Tryz.prog 20 [.v a.v, .v b.v] (.v (.tuple #[(crS (meetS S T)).v, .bool (meetB S T), .int .i64 (meetE S T)])) := by
 obtain ⟨⟨⟨an0, au0, ad0⟩, ⟨an1, au1, ad1⟩⟩, ⟨⟨an2, au2, ad2⟩, ⟨an3, au3, ad3⟩⟩⟩ := a
 have haa : IsP k ⟨⟨an0, au0, ad0⟩, ⟨an1, au1, ad1⟩⟩ S.a := ha.a
 have hab : IsP k ⟨⟨an2, au2, ad2⟩, ⟨an3, au3, ad3⟩⟩ S.b := ha.b
 have haax : Is k ⟨an0, au0, ad0⟩ S.a.x := ha.a.x
 have haay : Is k ⟨an1, au1, ad1⟩ S.a.y := ha.a.y
 have habx : Is k ⟨an2, au2, ad2⟩ S.b.x := ha.b.x
 have haby : Is k ⟨an3, au3, ad3⟩ S.b.y := ha.b.y
 obtain ⟨⟨⟨bn0, bu0, bd0⟩, ⟨bn1, bu1, bd1⟩⟩, ⟨⟨bn2, bu2, bd2⟩, ⟨bn3, bu3, bd3⟩⟩⟩ := b
 have hba : IsP k ⟨⟨bn0, bu0, bd0⟩, ⟨bn1, bu1, bd1⟩⟩ T.a := hb.a
 have hbb : IsP k ⟨⟨bn2, bu2, bd2⟩, ⟨bn3, bu3, bd3⟩⟩ T.b := hb.b
 have hbax : Is k ⟨bn0, bu0, bd0⟩ T.a.x := hb.a.x
 have hbay : Is k ⟨bn1, bu1, bd1⟩ T.a.y := hb.a.y
 have hbbx : Is k ⟨bn2, bu2, bd2⟩ T.b.x := hb.b.x
 have hbby : Is k ⟨bn3, bu3, bd3⟩ T.b.y := hb.b.y
 obtain ⟨r0, e0⟩ : ∃ r, r = crS (meetS S T) := ⟨_, rfl⟩
 rw [<- e0]
 obtain ⟨r1, e1⟩ : ∃ r, r = meetB S T := ⟨_, rfl⟩
 rw [<- e1]
 obtain ⟨r2, e2⟩ : ∃ r, r = meetE S T := ⟨_, rfl⟩
 rw [<- e2]
 refine Con.of ttOk mixed Tryz.func20 {} .nil 0 (by kernel_rfl) (fun P' E hP hE => ?_)
 cbv
 refine wrong_c hP hE (by assumption) (by assumption) (by omega) ?_
 intro b1 eb1
 cbv
 refine fork.mk ?_ ?_
 ·intro g1
  cbv
  subst hE
  have hm : wrongQ S T = true := eb1.symm.trans g1
  rw [e0, e1, e2, meetS, meetB, meetE, if_pos hm, if_pos hm, if_pos hm, crS_zero]
 ·intro g1
  cbv
  refine meet0_c hP hE (by assumption) (by assumption) (by omega) ?_
  intro m em hm ema emb hma hmb hmax hmay hmbx hmby b2 eb2
  cbv
  subst hE
  have hm : ¬ wrongQ S T = true := by rw [<- eb1, g1]; simp
  rw [e0, e1, e2, meetS, meetB, meetE, if_neg hm, if_neg hm, if_neg hm, em, eb2]
theorem smeet_p {a : Sg} {S : Sq} {k : Nat} {b : Sg} {T : Sq} (ha : IsS k a S) (hb : IsS k b T) (h : 40 * k + 40 <= 134217728) : ∃ (r0 : Sg) (r1 : Bool) (r2 : Int), r0 = crS (meetS S T) /\ IsS (20 * k + 20) r0 (meetS S T) /\ r1 = meetB S T /\ r2 = meetE S T /\ Con Tryz.prog 20 [.v a.v, .v b.v] (.v (.tuple #[r0.v, .bool r1, .int .i64 r2])) := ⟨_, _, _, rfl, (ha.bd.meetS hb.bd).is, rfl, rfl, smeet_q ha hb h⟩
theorem cross_ok : InlOk Tryz.prog [(71, Tryz.f71, {}), (154, Tryz.f154, { un := [(2, 5)] }), (83, Tryz.f83, {})] :=
 InlOk.cons Tryz.func71 (by kernel_rfl) (InlOk.cons Tryz.func154 (by kernel_rfl) (InlOk.cons Tryz.func83 (by kernel_rfl) .nil))
theorem str_eq (a b : ByteArray) : (a.toList == b.toList) = decide (a = b) := sq_iff
theorem str_iff (a b : ByteArray) : (a.toList == b.toList) = true ↔ a = b := by rw [str_eq]; simp
/-- '==' of two numbers, points, segments. -/
theorem eqc_R (p q : R) : eqCells p.c q.c = true ↔ p = q := by
 obtain ⟨a, b, c⟩ := p
 obtain ⟨a', b', c'⟩ := q
 simp [eqCells, str_iff, -beq_iff_eq]
 simp
theorem eqc_P (p q : Pt) : eqCells p.c q.c = true ↔ p = q := by
 obtain ⟨⟨a, b, c⟩, ⟨d, e, f⟩⟩ := p
 obtain ⟨⟨a', b', c'⟩, ⟨d', e', f'⟩⟩ := q
 simp [eqCells, str_iff, -beq_iff_eq, and_assoc]
 simp
theorem eqc_S (p q : Sg) : eqCells p.c q.c = true ↔ p = q := by
 obtain ⟨⟨⟨a, b, c⟩, ⟨d, e, f⟩⟩, ⟨⟨a2, b2, c2⟩, ⟨d2, e2, f2⟩⟩⟩ := p
 obtain ⟨⟨⟨a', b', c'⟩, ⟨d', e', f'⟩⟩, ⟨⟨a2', b2', c2'⟩, ⟨d2', e2', f2'⟩⟩⟩ := q
 simp [eqCells, str_iff, -beq_iff_eq, and_assoc]
 simp
theorem nev_P {t : TypeId} {p q : Pt} : Env.std.bn (Env.std.eqv t p.c q.c) = true ↔ p ≠ q := by
 rw [s_bn, ne_eq, <- eqc_P]; simp; rfl
theorem nevf_P {t : TypeId} {p q : Pt} : Env.std.bn (Env.std.eqv t p.c q.c) = false ↔ p = q := by
 rw [s_bn, <- eqc_P]; simp; rfl
theorem crossQ_some {s t m : Sq} (h : wrongQ s t = false) (hm : meetQ s t = some m) : crossQ s t = decide (cmpP m.a m.b = 0 /\ cmpP s.a m.a ≠ 0 /\ cmpP s.b m.a ≠ 0 /\ cmpP t.a m.a ≠ 0 /\ cmpP t.b m.a ≠ 0) := by
 unfold crossQ; rw [h, hm]; rfl
theorem scross_q {a : Sg} {S : Sq} {k : Nat} {b : Sg} {T : Sq} (ha : IsS k a S) (hb : IsS k b T) (h : 40 * k + 40 <= 134217728) : Con Tryz.prog 18 [.v a.v, .v b.v] (.v (.bool (crossQ S T))) := by
 obtain ⟨⟨⟨an0, au0, ad0⟩, ⟨an1, au1, ad1⟩⟩, ⟨⟨an2, au2, ad2⟩, ⟨an3, au3, ad3⟩⟩⟩ := a
 have haa : IsP k ⟨⟨an0, au0, ad0⟩, ⟨an1, au1, ad1⟩⟩ S.a := ha.a
 have hab : IsP k ⟨⟨an2, au2, ad2⟩, ⟨an3, au3, ad3⟩⟩ S.b := ha.b
 have haax : Is k ⟨an0, au0, ad0⟩ S.a.x := ha.a.x
 have haay : Is k ⟨an1, au1, ad1⟩ S.a.y := ha.a.y
 have habx : Is k ⟨an2, au2, ad2⟩ S.b.x := ha.b.x
 have haby : Is k ⟨an3, au3, ad3⟩ S.b.y := ha.b.y
 obtain ⟨⟨⟨bn0, bu0, bd0⟩, ⟨bn1, bu1, bd1⟩⟩, ⟨⟨bn2, bu2, bd2⟩, ⟨bn3, bu3, bd3⟩⟩⟩ := b
 have hba : IsP k ⟨⟨bn0, bu0, bd0⟩, ⟨bn1, bu1, bd1⟩⟩ T.a := hb.a
 have hbb : IsP k ⟨⟨bn2, bu2, bd2⟩, ⟨bn3, bu3, bd3⟩⟩ T.b := hb.b
 have hbax : Is k ⟨bn0, bu0, bd0⟩ T.a.x := hb.a.x
 have hbay : Is k ⟨bn1, bu1, bd1⟩ T.a.y := hb.a.y
 have hbbx : Is k ⟨bn2, bu2, bd2⟩ T.b.x := hb.b.x
 have hbby : Is k ⟨bn3, bu3, bd3⟩ T.b.y := hb.b.y
 obtain ⟨r0, e0⟩ : ∃ r, r = crossQ S T := ⟨_, rfl⟩
 rw [<- e0]
 refine Con.of ttOk mixed Tryz.func18 {} cross_ok 3 (by kernel_rfl) (fun P' E hP hE => ?_)
 cbv
 refine wrong_c hP hE (by assumption) (by assumption) (by omega) ?_
 intro b1 eb1
 cbv
 refine fork.mk ?_ ?_
 ·intro g1
  cbv
  subst hE
  have hm : wrongQ S T = true := eb1.symm.trans g1
  rw [e0, crossQ, hm]
  rfl
 ·intro g1
  cbv
  refine meet0_c hP hE (by assumption) (by assumption) (by omega) ?_
  intro m em hm ema emb hma hmb hmax hmay hmbx hmby b2 eb2
  cbv
  refine fork.mk ?_ ?_
  ·intro g2
   cbv
   subst hE
   simp [Env.std] at g2
   rw [eb2] at g2
   have hn : meetQ S T = none := by cases hh : meetQ S T <;> simp [hh] at g2 ⊢
   rw [e0, crossQ, hn]
   simp
  ·intro g2
   have hs : ∃ M, meetQ S T = some M := by
    subst hE
    simp [Env.std] at g2
    rw [eb2] at g2
    cases hh : meetQ S T <;> simp [hh] at g2 ⊢
   refine Exists.elim hs ?_
   intro M hM
   rw [eb1] at g1
   rw [hM] at em ema emb hma hmb hm hmax hmay hmbx hmby
   have hc := crossQ_some g1 hM
   have hma : IsP (20 * k + 20) m.a M.a := hma
   have em' : m = crS M := em
   cbv
   refine fork.mk ?_ ?_
   ·intro g3
    cbv
    subst hE
    have g3 := (nev_P (t := 0)).1 g3
    rw [e0, hc, decide_eq_false]
    rintro ⟨w, _⟩
    refine g3 ?_
    rw [em']
    show crP M.a = crP M.b
    rw [cmpP_eq.1 w]
   ·intro g3
    have g3' : cmpP M.a M.b = 0 := by
     subst hE
     have g3 := (nevf_P (t := 0)).1 g3
     rw [em'] at g3
     exact cmpP_eq.2 (crP_iff.1 g3)
    cbv
    refine vcmp_c hP hE (by assumption) (by assumption) (by omega) ?_
    intro m1 em1
    cbv
    refine fork.mk ?_ ?_
    ·intro g4
     cbv
     subst hE
     simp [Env.std] at g4
     simp [Env.std, e0, hc, <- em1, g4]
    ·intro g4
     cbv
     refine vcmp_c hP hE (by assumption) (by assumption) (by omega) ?_
     intro m2 em2
     cbv
     refine fork.mk ?_ ?_
     ·intro g5
      cbv
      subst hE
      simp [Env.std] at g5
      simp [Env.std, e0, hc, <- em2, g5]
     ·intro g5
      cbv
      refine vcmp_c hP hE (by assumption) (by assumption) (by omega) ?_
      intro m3 em3
      cbv
      refine fork.mk ?_ ?_
      ·intro g6
       cbv
       subst hE
       simp [Env.std] at g6
       simp [Env.std, e0, hc, <- em3, g6]
      ·intro g6
       cbv
       refine vcmp_c hP hE (by assumption) (by assumption) (by omega) ?_
       intro m4 em4
       cbv
       refine fork.mk ?_ ?_
       ·intro g7
        cbv
        subst hE
        simp [Env.std] at g7
        simp [Env.std, e0, hc, <- em4, g7]
       ·intro g7
        cbv
        subst hE
        simp [Env.std] at g4 g5 g6 g7
        simp [Env.std, e0, hc, <- em1, <- em2, <- em3, <- em4, g4, g5, g6, g7, g3']
theorem scross_p {a : Sg} {S : Sq} {k : Nat} {b : Sg} {T : Sq} (ha : IsS k a S) (hb : IsS k b T) (h : 40 * k + 40 <= 134217728) : ∃ (r0 : Bool), r0 = crossQ S T /\ Con Tryz.prog 18 [.v a.v, .v b.v] (.v (.bool r0)) := ⟨_, rfl, scross_q ha hb h⟩
end Go.Proofs.YtfdealobplcboaaGreat.Sx

set_option linter.unusedVariables false
set_option linter.unusedSimpArgs false
namespace Go.Proofs.YtfdealobplcboaaGreat.Sx
/-- The parameter of the point of a segment with an abscissa. -/
def hparQ (s : Sq) (x : Rat) : Rat := (x - s.a.x) / (s.b.sub s.a).x
/-- The ordinate of a segment at an abscissa, and its error. -/
def heightE (s : Sq) (x : Rat) : Int :=
 if chkQ s ≠ 0 then 12 else if dvE (s.b.sub s.a).x ≠ 0 then 24 else if unitQ (hparQ s x) = true then 0 else 14
def heightQ (s : Sq) (x : Rat) : Rat := if heightE s x = 0 then s.a.y + hparQ s x * (s.b.sub s.a).y else 0
def paramQ (s : Sq) (p : Pq) : Rat := ((p.sub s.a).dot (s.b.sub s.a)) / ((s.b.sub s.a).dot (s.b.sub s.a))
def nearQ (s : Sq) (p : Pq) : Pq :=
 if chkQ s ≠ 0 then Pq.zero else if cmpQ (paramQ s p) 0 <= 0 then s.a else if 0 <= cmpQ (paramQ s p) 1 then s.b else s.a.at s.b (paramQ s p)
theorem BdS.height {k : Nat} {s : Sq} {x : Rat} (hs : BdS k s) (hx : Bd k x) : Bd (10 * k + 10) (heightQ s x) := by
 have hd := hs.b.sub hs.a
 have h1 : Bd (5 * k + 5) (hparQ s x) := ((hx.sub hs.a.x).div hd.x).mono (by omega)
 have h2 := hs.a.y.add (h1.mul hd.y)
 unfold heightQ; split
 ·exact h2.mono (by omega)
 ·exact Bd.zero (by omega)
theorem BdS.param {k : Nat} {s : Sq} {p : Pq} (hs : BdS k s) (hp : BdP k p) : Bd (16 * k + 10) (paramQ s p) := by
 have hd := hs.b.sub hs.a
 exact (((hp.sub hs.a).dot hd).div (hd.dot hd)).mono (by omega)
theorem BdS.near {k : Nat} {s : Sq} {p : Pq} (hs : BdS k s) (hp : BdP k p) : BdP (20 * k + 20) (nearQ s p) := by
 have h1 := (hs.a.at hs.b (hs.param hp)).mono (l := 20 * k + 20) (by omega)
 unfold nearQ
 split
 ·exact BdP.zero (by omega)
 ·split
  ·exact hs.a.mono (by omega)
  ·split
   ·exact hs.b.mono (by omega)
   ·exact h1
theorem bd_int {n : Int} (h : -9223372036854775808 <= n /\ n < 9223372036854775808) : Bd 8 (n : Rat) := Bd.int (by
 have : (256 : Nat) ^ 8 = 18446744073709551616 := by decide
 omega) (by decide)
end Go.Proofs.YtfdealobplcboaaGreat.Sx

set_option linter.unusedVariables false
set_option linter.unusedSimpArgs false
set_option maxRecDepth 100000
set_option maxHeartbeats 8000000
namespace Go.Proofs.YtfdealobplcboaaGreat.Sx
theorem height_q {a : Sg} {S : Sq} {k : Nat} {b : R} {x : Rat} (ha : IsS k a S) (hb : Is k b x) (h : 20 * k + 20 <= 134217728) : Con Tryz.prog 24 [.v a.v, .v b.v] (.v (.tuple #[(cr (heightQ S x)).v, .int .i64 (heightE S x)])) := by
 obtain ⟨⟨⟨an0, au0, ad0⟩, ⟨an1, au1, ad1⟩⟩, ⟨⟨an2, au2, ad2⟩, ⟨an3, au3, ad3⟩⟩⟩ := a
 have haa : IsP k ⟨⟨an0, au0, ad0⟩, ⟨an1, au1, ad1⟩⟩ S.a := ha.a
 have hab : IsP k ⟨⟨an2, au2, ad2⟩, ⟨an3, au3, ad3⟩⟩ S.b := ha.b
 have haax : Is k ⟨an0, au0, ad0⟩ S.a.x := ha.a.x
 have haay : Is k ⟨an1, au1, ad1⟩ S.a.y := ha.a.y
 have habx : Is k ⟨an2, au2, ad2⟩ S.b.x := ha.b.x
 have haby : Is k ⟨an3, au3, ad3⟩ S.b.y := ha.b.y
 obtain ⟨bn0, bu0, bd0⟩ := b
 obtain ⟨r0, e0⟩ : ∃ r, r = cr (heightQ S x) := ⟨_, rfl⟩
 rw [<- e0]
 obtain ⟨r1, e1⟩ : ∃ r, r = heightE S x := ⟨_, rfl⟩
 rw [<- e1]
 obtain ⟨d, ed, hd, kd⟩ := sdir_p ha (by omega)
 obtain ⟨w, ew, hw, kw⟩ := sub_p hb haax (by omega)
 obtain ⟨t, te, et, ht, ete, kt⟩ := quo_p hw hd.x (by omega)
 have hdy := hd.y
 refine Con.of ttOk mixed Tryz.func24 { ord := [(4, (.op 0 (.op 1 (.op 2 (.op 3 (.op 5 (.op 6 (.br 4 (.br 7 (.op 8 (.op 9 (.op 10 (.op 11 (.op 12 (.op 13 .nil)))))) (.br 11 (.op 7 (.op 8 (.op 9 (.op 10 (.op 12 (.op 13 .nil)))))) .stop)) (.br 11 (.op 4 (.op 7 (.op 8 (.op 9 (.op 10 (.op 12 (.op 13 .nil))))))) .stop))))))))), (9, [0, 1, 2, 3, 4, 5, 6, 7, 8, 9])] } .nil 0 (by kernel_rfl) (fun P' E hP hE => ?_)
 cbv
 refine schk_c hP hE (by assumption) (by omega) ?_
 intro m1 em1
 cbv
 refine fork.mk ?_ ?_
 ·intro g1
  cbv
  subst hE
  simp [Env.std] at g1
  have hm : heightE S x = 12 := by rw [heightE, if_pos (by rw [<- em1]; exact g1)]
  have hq : heightQ S x = 0 := by simp [heightQ, hm]
  rw [e0, e1, hq, hm, cr_zero]
 ·intro g1
  cbv
  refine CallTo.w hP hE kd ⟨rfl, trivial⟩ ?_
  cbv
  refine DrawTo.byU [(7, .p 6 0), (8, .v (.int .i64 te))] [.cells t.av 23] ?_ ?_
  ·cbv
   repeat' first
    | exact True.intro
    | (refine Both.mk ?_ ?_ <;> cbv)
    | (refine CallTo.w hP hE kw ⟨rfl, rfl, trivial⟩ ?_; cbv)
    | (refine CallTo.w hP hE kt ⟨rfl, rfl, trivial⟩ ?_; cbv)
    | (simp only [and_self]; done)
  cbv
  refine fork.mk ?_ ?_
  ·intro g2
   cbv
   subst hE
   simp [Env.std] at g1 g2
   have hm : heightE S x = 24 := by rw [heightE, if_neg (by rw [<- em1, g1]; simp), if_pos (by rw [<- ete]; exact g2)]
   have hq : heightQ S x = 0 := by simp [heightQ, hm]
   rw [e0, e1, hq, hm, cr_zero]
  ·intro g2
   cbv
   refine unit_c hP hE (by assumption) (by omega) ?_
   intro b1 eb1
   cbv
   refine fork.mk ?_ ?_
   ·intro g3
    cbv
    subst hE
    simp [Env.std] at g1 g2 g3
    have hm : heightE S x = 14 := by rw [heightE, if_neg (by rw [<- em1, g1]; simp), if_neg (by rw [<- ete, g2]; simp), if_neg (by rw [hparQ, <- eb1, g3]; simp)]
    have hq : heightQ S x = 0 := by simp [heightQ, hm]
    rw [e0, e1, hq, hm, cr_zero]
   ·intro g3
    cbv
    refine mul_c hP hE (by assumption) (by assumption) (by omega) ?_
    intro c1 ec1 hc1
    cbv
    refine add_c hP hE (by assumption) (by assumption) (by omega) ?_
    intro c2 ec2 hc2
    cbv
    subst hE
    simp [Env.std] at g1 g2 g3
    have hm : heightE S x = 0 := by rw [heightE, if_neg (by rw [<- em1, g1]; simp), if_neg (by rw [<- ete, g2]; simp), if_pos (by rw [hparQ, <- eb1, g3])]
    rw [e0, e1, heightQ, if_pos hm, hm, ec2]; rfl
theorem height_p {a : Sg} {S : Sq} {k : Nat} {b : R} {x : Rat} (ha : IsS k a S) (hb : Is k b x) (h : 20 * k + 20 <= 134217728) : ∃ (r0 : R) (r1 : Int), r0 = cr (heightQ S x) /\ Is (10 * k + 10) r0 (heightQ S x) /\ r1 = heightE S x /\ Con Tryz.prog 24 [.v a.v, .v b.v] (.v (.tuple #[r0.v, .int .i64 r1])) := ⟨_, _, rfl, (ha.bd.height hb.b).is, rfl, height_q ha hb h⟩
theorem param_q {a : Sg} {S : Sq} {k : Nat} {b : Pt} {A : Pq} (ha : IsS k a S) (hb : IsP k b A) (h : 20 * k + 20 <= 134217728) : Con Tryz.prog 95 [.v a.v, .v b.v] (.v ((cr (paramQ S A)).v)) := by
 obtain ⟨⟨⟨an0, au0, ad0⟩, ⟨an1, au1, ad1⟩⟩, ⟨⟨an2, au2, ad2⟩, ⟨an3, au3, ad3⟩⟩⟩ := a
 have haa : IsP k ⟨⟨an0, au0, ad0⟩, ⟨an1, au1, ad1⟩⟩ S.a := ha.a
 have hab : IsP k ⟨⟨an2, au2, ad2⟩, ⟨an3, au3, ad3⟩⟩ S.b := ha.b
 have haax : Is k ⟨an0, au0, ad0⟩ S.a.x := ha.a.x
 have haay : Is k ⟨an1, au1, ad1⟩ S.a.y := ha.a.y
 have habx : Is k ⟨an2, au2, ad2⟩ S.b.x := ha.b.x
 have haby : Is k ⟨an3, au3, ad3⟩ S.b.y := ha.b.y
 obtain ⟨⟨bn0, bu0, bd0⟩, ⟨bn1, bu1, bd1⟩⟩ := b
 have hbx : Is k ⟨bn0, bu0, bd0⟩ A.x := hb.x
 have hby : Is k ⟨bn1, bu1, bd1⟩ A.y := hb.y
 obtain ⟨r0, e0⟩ : ∃ r, r = cr (paramQ S A) := ⟨_, rfl⟩
 rw [<- e0]
 obtain ⟨d, ed, hd, kd⟩ := sdir_p ha (by omega)
 obtain ⟨w, ew, hw, kw⟩ := vsub_p hb haa (by omega)
 obtain ⟨d1, ed1, hd1, kd1⟩ := vdot_p hw hd (by omega)
 obtain ⟨d2, ed2, hd2, kd2⟩ := vdot_p hd hd (by omega)
 obtain ⟨t, te, et, ht, ete, kt⟩ := quo_p hd1 hd2 (by omega)
 refine Con.of ttOk mixed Tryz.func95 { ord := [(2, (.op 0 (.op 1 (.op 2 (.op 4 (.op 6 (.op 7 (.br 3 (.br 5 (.br 8 (.br 9 (.op 10 (.op 11 (.op 12 (.op 13 (.op 14 (.op 15 .nil)))))) (.br 13 (.op 9 (.op 10 (.op 11 (.op 12 (.op 14 (.op 15 .nil)))))) .stop)) (.br 13 (.op 8 (.op 9 (.op 10 (.op 11 (.op 12 (.op 14 (.op 15 .nil))))))) .stop)) (.br 13 (.op 5 (.op 8 (.op 9 (.op 10 (.op 11 (.op 12 (.op 14 (.op 15 .nil)))))))) .stop)) (.br 13 (.op 3 (.op 5 (.op 8 (.op 9 (.op 10 (.op 11 (.op 12 (.op 14 (.op 15 .nil))))))))) .stop)))))))))] } .nil 0 (by kernel_rfl) (fun P' E hP hE => ?_)
 cbv
 refine CallTo.w hP hE kd ⟨rfl, trivial⟩ ?_
 cbv
 refine DrawTo.byU [(6, .p 6 0)] [.cells t.av 23] ?_ ?_
 ·cbv
  repeat' first
   | exact True.intro
   | (refine Both.mk ?_ ?_ <;> cbv)
   | (refine CallTo.w hP hE kw ⟨rfl, rfl, trivial⟩ ?_; cbv)
   | (refine CallTo.w hP hE kd1 ⟨rfl, rfl, trivial⟩ ?_; cbv)
   | (refine CallTo.w hP hE kd2 ⟨rfl, rfl, trivial⟩ ?_; cbv)
   | (refine CallTo.w hP hE kt ⟨rfl, rfl, trivial⟩ ?_; cbv)
   | (simp only [and_self]; done)
 cbv
 rw [e0, et]; rfl
theorem param_c {P' : Program} {E : Env} (hP : P' = Tryz.prog) (hE : E = Env.std) {hh : List Blk} {K : AV -> List Blk -> Prop} {an0 an1 an2 an3 : Bool} {au0 ad0 au1 ad1 au2 ad2 au3 ad3 : ByteArray} {S : Sq} {k : Nat} {bn0 bn1 : Bool} {bu0 bd0 bu1 bd1 : ByteArray} {A : Pq} (ha : IsS k ⟨⟨⟨an0, au0, ad0⟩, ⟨an1, au1, ad1⟩⟩, ⟨⟨an2, au2, ad2⟩, ⟨an3, au3, ad3⟩⟩⟩ S) (hb : IsP k ⟨⟨bn0, bu0, bd0⟩, ⟨bn1, bu1, bd1⟩⟩ A) (h : 20 * k + 20 <= 134217728) (hk : ∀ r0 : R, r0 = cr (paramQ S A) -> Is (16 * k + 10) r0 (paramQ S A) -> K (.v (r0.v)) hh) : CallTo P' hh 95 [.v (.agg #[.bool an0, .string au0, .string ad0, .bool an1, .string au1, .string ad1, .bool an2, .string au2, .string ad2, .bool an3, .string au3, .string ad3]), .v (.agg #[.bool bn0, .string bu0, .string bd0, .bool bn1, .string bu1, .string bd1])] K := by
 refine CallTo.con hP hE (param_q ha hb h) ⟨rfl, rfl, trivial⟩ ?_
 have := hk _ rfl (ha.bd.param hb.b).is 
 simp only [outV, outW, List.append_nil]
 exact this
theorem near_q {a : Sg} {S : Sq} {k : Nat} {b : Pt} {A : Pq} (ha : IsS k a S) (hb : IsP k b A) (h : 20 * k + 20 <= 134217728) : Con Tryz.prog 26 [.v a.v, .v b.v] (.v (.tuple #[(crP (nearQ S A)).v, .int .i64 (chkQ S)])) := by
 obtain ⟨⟨⟨an0, au0, ad0⟩, ⟨an1, au1, ad1⟩⟩, ⟨⟨an2, au2, ad2⟩, ⟨an3, au3, ad3⟩⟩⟩ := a
 have haa : IsP k ⟨⟨an0, au0, ad0⟩, ⟨an1, au1, ad1⟩⟩ S.a := ha.a
 have hab : IsP k ⟨⟨an2, au2, ad2⟩, ⟨an3, au3, ad3⟩⟩ S.b := ha.b
 have haax : Is k ⟨an0, au0, ad0⟩ S.a.x := ha.a.x
 have haay : Is k ⟨an1, au1, ad1⟩ S.a.y := ha.a.y
 have habx : Is k ⟨an2, au2, ad2⟩ S.b.x := ha.b.x
 have haby : Is k ⟨an3, au3, ad3⟩ S.b.y := ha.b.y
 obtain ⟨⟨bn0, bu0, bd0⟩, ⟨bn1, bu1, bd1⟩⟩ := b
 have hbx : Is k ⟨bn0, bu0, bd0⟩ A.x := hb.x
 have hby : Is k ⟨bn1, bu1, bd1⟩ A.y := hb.y
 obtain ⟨r0, e0⟩ : ∃ r, r = crP (nearQ S A) := ⟨_, rfl⟩
 rw [<- e0]
 obtain ⟨r1, e1⟩ : ∃ r, r = chkQ S := ⟨_, rfl⟩
 rw [<- e1]
 refine Con.of ttOk mixed Tryz.func26 { ord := [(6, [0, 1, 2, 3, 4])] } .nil 0 (by kernel_rfl) (fun P' E hP hE => ?_)
 cbv
 refine schk_c hP hE (by assumption) (by omega) ?_
 intro m1 em1
 cbv
 refine fork.mk ?_ ?_
 ·intro g1
  cbv
  subst hE
  simp [Env.std] at g1
  rw [e0, e1, nearQ, if_pos (by rw [<- em1]; exact g1), crP_zero]
  have : chkQ S = 12 := by
   rw [em1] at g1
   unfold chkQ at g1 ⊢
   split at g1
   ·rename_i h; rw [if_pos h]
   ·exact absurd rfl g1
  rw [this]
 ·intro g1
  cbv
  refine param_c hP hE (by assumption) (by assumption) (by omega) ?_
  intro t et ht
  cbv
  refine sign_c hP hE (by assumption) (by omega) ?_
  intro m2 em2
  cbv
  refine fork.mk ?_ ?_
  ·intro g2
   cbv
   refine canon_c hP hE (by assumption) (by omega) ?_
   intro c ec hc hcx hcy
   cbv
   subst hE
   simp [Env.std] at g1 g2
   rw [e0, e1, nearQ, if_neg (by rw [<- em1, g1]; simp), if_pos (by rw [<- em2]; exact g2), ec, <- em1, g1]
  ·intro g2
   cbv
   refine ofc_c hP hE rfl (by omega) ?_
   intro o eo ho
   cbv
   refine cmp_c hP hE (by assumption) (by assumption) (by omega) ?_
   intro m3 em3
   cbv
   refine fork.mk ?_ ?_
   ·intro g3
    cbv
    refine canon_c hP hE (by assumption) (by omega) ?_
    intro c ec hc hcx hcy
    cbv
    subst hE
    simp [Env.std] at g1 g2 g3
    rw [e0, e1, nearQ, if_neg (by rw [<- em1, g1]; simp), if_neg (by rw [<- em2]; omega), if_pos (by rw [em3] at g3; exact g3), ec, <- em1, g1]
   ·intro g3
    cbv
    refine vat_c hP hE (by assumption) (by assumption) (by assumption) (by omega) ?_
    intro c ec hc hcx hcy
    cbv
    subst hE
    simp [Env.std] at g1 g2 g3
    rw [e0, e1, nearQ, if_neg (by rw [<- em1, g1]; simp), if_neg (by rw [<- em2]; omega), if_neg (by rw [em3] at g3; exact fun h => absurd (Int.lt_of_le_of_lt h g3) (Int.lt_irrefl _)), ec, <- em1, g1]
theorem near_p {a : Sg} {S : Sq} {k : Nat} {b : Pt} {A : Pq} (ha : IsS k a S) (hb : IsP k b A) (h : 20 * k + 20 <= 134217728) : ∃ (r0 : Pt) (r1 : Int), r0 = crP (nearQ S A) /\ IsP (20 * k + 20) r0 (nearQ S A) /\ r1 = chkQ S /\ Con Tryz.prog 26 [.v a.v, .v b.v] (.v (.tuple #[r0.v, .int .i64 r1])) := ⟨_, _, rfl, (ha.bd.near hb.b).is, rfl, near_q ha hb h⟩
theorem vof_q (m n : Int) (h : (-9223372036854775808 <= m /\ m < 9223372036854775808) /\ (-9223372036854775808 <= n /\ n < 9223372036854775808)) : Con Tryz.prog 77 [.v (.int .i64 m), .v (.int .i64 n)] (.v (crP ⟨(m : Rat), (n : Rat)⟩).v) := by
 have h1 := h.1
 have h2 := h.2
 obtain ⟨r0, e0⟩ : ∃ r, r = crP ⟨(m : Rat), (n : Rat)⟩ := ⟨_, rfl⟩
 rw [<- e0]
 refine Con.of ttOk mixed Tryz.func77 {} .nil 0 (by kernel_rfl) (fun P' E hP hE => ?_)
 cbv
 refine ofc_c hP hE rfl (by omega) ?_
 intro c1 ec1 hc1
 cbv
 refine ofc_c hP hE rfl (by omega) ?_
 intro c2 ec2 hc2
 cbv
 rw [e0, ec1, ec2]; rfl
theorem vof_c {P' : Program} {E : Env} (hP : P' = Tryz.prog) (hE : E = Env.std) {hh : List Blk} {K : AV -> List Blk -> Prop} {a : AV} {ab : Bool} {m : Int} {b : AV} {bb : Bool} {n : Int} (ha : AV.val a = some (ab, .int .i64 m)) (hb : AV.val b = some (bb, .int .i64 n)) (h : (-9223372036854775808 <= m /\ m < 9223372036854775808) /\ (-9223372036854775808 <= n /\ n < 9223372036854775808)) (hk : ∀ r0 : Pt, r0 = crP ⟨(m : Rat), (n : Rat)⟩ -> IsP 8 r0 ⟨(m : Rat), (n : Rat)⟩ -> Is 8 r0.x (m : Rat) -> Is 8 r0.y (n : Rat) -> K (.v r0.v) hh) : CallTo P' hh 77 [a, b] K := by
 refine CallTo.con hP hE (vof_q m n h) ⟨fit_val ha, fit_val hb, trivial⟩ ?_
 have := hk _ rfl (BdP.is ⟨bd_int h.1, bd_int h.2⟩) (bd_int h.1).is (bd_int h.2).is
 simp only [outV, outW, List.append_nil]
 exact this
end Go.Proofs.YtfdealobplcboaaGreat.Sx

set_option linter.unusedVariables false
set_option linter.unusedSimpArgs false
set_option maxRecDepth 100000
set_option maxHeartbeats 8000000
namespace Go.Proofs.YtfdealobplcboaaGreat.Sx
def bigB (p : Pt) : Bool := decide (40 < p.x.num.size) || (decide (40 < p.x.den.size) || (decide (40 < p.y.num.size) || decide (40 < p.y.den.size)))
def bigL : List Pt -> Bool
 | [] => false
 | p :: l => bigB p || bigL l
theorem drop_get {α : Type} {l : List α} {i : Nat} (z : α) (h : i < l.length) : l.drop i = l.getD i z :: l.drop (i + 1) := by
 rw [List.drop_eq_getElem_cons h, List.getD_eq_getElem?_getD, List.getElem?_eq_getElem h]; rfl
theorem bigL_step {l : List Pt} {i : Nat} (z : Pt) (h : i < l.length) : bigL (l.drop i) = (bigB (l.getD i z) || bigL (l.drop (i + 1))) := by
 rw [drop_get z h]; rfl
theorem great_con (l : List Pt) (hl : l.length <= 140737488355328) : Con Tryz.prog 15 [.ro cP l] (.v (.bool (bigL l))) := by
 obtain ⟨r, hr⟩ : ∃ r, r = bigL l := ⟨_, rfl⟩
 rw [<- hr]
 obtain ⟨i0, hi0⟩ : ∃ i : Int, i = 0 := ⟨_, rfl⟩
 obtain ⟨n, hn⟩ : ∃ n : Int, n = l.length := ⟨_, rfl⟩
 refine Con.of ttOk mixed Tryz.func15 {} .nil 0 (by kernel_rfl) (fun P' E hP hE => ?_)
 have hp0 : 0 <= i0 /\ i0 <= n /\ bigL (l.drop i0.toNat) = r := by
  subst hi0; exact ⟨by omega, by omega, by rw [hr]; rfl⟩
 clear hr
 cbv
 refine LoopTo.by (ι := Int) (fun i => [(6, .v (.int .i64 n)), (7, .v (.int .i64 i))]) (fun i => []) (fun i => 0 <= i /\ i <= n /\ bigL (l.drop i.toNat) = r) (fun i => (n - i).toNat) i0 [] hp0 ?_ ?_
 ·cbv
  subst hE
  and_intros
  all_goals first
   | exact congrArg (fun x => AV.v (Value.int .i64 x)) hn.symm
   | exact congrArg (fun x => Value.int .i64 x) hi0.symm
   | (simp; done)
 ·intro i hi
  have h0 : 0 <= i := hi.1
  have h1 : i <= n := hi.2.1
  have h2 : bigL (l.drop i.toNat) = r := hi.2.2
  clear hi hp0
  cbv
  refine fork.mk ?_ ?_
  ·intro g1
   have hn : n = (l.length : Int) := hn
   have hlt : i < n := by subst hE; simpa [Env.std] using g1
   have hst := bigL_step (l := l) (i := i.toNat) ⟨⟨false, ⟨#[]⟩, ⟨#[]⟩⟩, ⟨false, ⟨#[]⟩, ⟨#[]⟩⟩⟩ (by omega)
   rw [h2] at hst
   have hin : 0 <= i /\ i < (l.length : Int) := ⟨h0, by omega⟩
   refine exVar (l.getD i.toNat ⟨⟨false, ⟨#[]⟩, ⟨#[]⟩⟩, ⟨false, ⟨#[]⟩, ⟨#[]⟩⟩⟩) ?_
   intro p hp
   have hget : Env.std.get Pt l i ⟨⟨false, ⟨#[]⟩, ⟨#[]⟩⟩, ⟨false, ⟨#[]⟩, ⟨#[]⟩⟩⟩ = p := hp.symm
   rw [<- hp] at hst
   have hj : Env.std.ib .add .i64 i 1 = i + 1 := by rw [s_add, w64 (by omega) (by omega)]
   have hnext : bigB p = false -> bigL (l.drop (i + 1).toNat) = r := fun h => by
    rw [h] at hst
    have e : (i + 1).toNat = i.toNat + 1 := by omega
    rw [e]; exact hst.symm
   refine exVar (i + 1) ?_
   intro j ej
   rw [<- ej] at hj hnext
   cbv
   refine ⟨by subst hE; exact hin, ?_⟩
   cbv
   refine fork.mk ?_ ?_
   ·intro k1
    cbv
    subst hE
    have k1 : decide ((Env.std.get Pt l i _).x.num.size > (40 : Int)) = true := k1
    rw [hget] at k1
    simp at k1
    rw [hst, bigB]; simp; omega
   ·intro k1
    cbv
    refine fork.mk ?_ ?_
    ·intro k2
     cbv
     subst hE
     have k2 : decide ((Env.std.get Pt l i _).x.den.size > (40 : Int)) = true := k2
     rw [hget] at k2
     simp at k2
     rw [hst, bigB]; simp; omega
    ·intro k2
     cbv
     refine fork.mk ?_ ?_
     ·intro k3
      cbv
      subst hE
      have k3 : decide ((Env.std.get Pt l i _).y.num.size > (40 : Int)) = true := k3
      rw [hget] at k3
      simp at k3
      rw [hst, bigB]; simp; omega
     ·intro k3
      cbv
      refine fork.mk ?_ ?_
      ·intro k4
       cbv
       subst hE
       have k4 : decide ((Env.std.get Pt l i _).y.den.size > (40 : Int)) = true := k4
       rw [hget] at k4
       simp at k4
       rw [hst, bigB]; simp; omega
      ·intro k4
       have hb : bigB p = false := by
        subst hE
        have k1 : decide ((Env.std.get Pt l i _).x.num.size > (40 : Int)) = false := k1
        have k2 : decide ((Env.std.get Pt l i _).x.den.size > (40 : Int)) = false := k2
        have k3 : decide ((Env.std.get Pt l i _).y.num.size > (40 : Int)) = false := k3
        have k4 : decide ((Env.std.get Pt l i _).y.den.size > (40 : Int)) = false := k4
        rw [hget] at k1 k2 k3 k4
        simp at k1 k2 k3 k4
        rw [bigB]; simp; omega
       have hnext := hnext hb
       have hj0 : 0 <= j := by omega
       have hj1 : j <= n := by omega
       have hmu : (n - j).toNat < (n - i).toNat := by omega
       clear hget hst k1 k2 k3 k4 hb
       cbv
       refine ⟨j, [], ⟨hj0, hj1, hnext⟩, hmu, ?_⟩
       cbv
       subst hE
       and_intros
       all_goals first
        | exact congrArg (fun x => AV.v (Value.int .i64 x)) hj
        | (simp; done)
  ·intro g1
   cbv
   subst hE
   have hn : n = (l.length : Int) := hn
   have hge : ¬ i < n := by simpa [Env.std] using g1
   rw [<- h2, List.drop_eq_nil_of_le (by omega)]
   rfl
end Go.Proofs.YtfdealobplcboaaGreat.Sx

set_option linter.unusedVariables false
set_option linter.unusedSimpArgs false
namespace Go.Proofs.YtfdealobplcboaaGreat.Sx
/-- How far a point lies within a side of a box. -/
def sideQ (b : Bq) : Nat -> Pq -> Rat
 | 0, p => p.x - b.lo.x
 | 1, p => b.hi.x - p.x
 | 2, p => p.y - b.lo.y
 | _, p => b.hi.y - p.y
/-- The parameters between two others that a side leaves. -/
def clip1 (fr go : Rat) (lh : Rat × Rat) : Option (Rat × Rat) :=
 if dvE (go - fr) ≠ 0 then (if cmpQ fr 0 < 0 then none else some lh)
 else if 0 < cmpQ (go - fr) 0 /\ 0 < cmpQ (-fr / (go - fr)) lh.1 then some (-fr / (go - fr), lh.2)
 else if cmpQ (go - fr) 0 < 0 /\ cmpQ (-fr / (go - fr)) lh.2 < 0 then some (lh.1, -fr / (go - fr))
 else some lh
def clipL (s : Sq) (b : Bq) : List Nat -> Rat × Rat -> Option (Rat × Rat)
 | [], lh => some lh
 | i :: l, lh => match clip1 (sideQ b i s.a) (sideQ b i s.b) lh with
  | none => none
  | some lh' => clipL s b l lh'
def clipE (s : Sq) (b : Bq) : Int := if chkQ s ≠ 0 then 12 else if 0 < cmpQ b.lo.x b.hi.x \/ 0 < cmpQ b.lo.y b.hi.y then 1 else 0
def clipK (s : Sq) : Option (Rat × Rat) -> Option Sq
 | none => none
 | some lh => if 0 < cmpQ lh.1 lh.2 then none else some ⟨s.a.at s.b lh.1, s.a.at s.b lh.2⟩
/-- The part of a segment within a box. -/
def clipR (s : Sq) (b : Bq) : Option Sq := if clipE s b ≠ 0 then none else clipK s (clipL s b [0, 1, 2, 3] (0, 1))
theorem BdB.side {k : Nat} {b : Bq} {p : Pq} (hb : BdB k b) (hp : BdP k p) (i : Nat) : Bd (2 * k + 1) (sideQ b i p) := by
 unfold sideQ
 split
 ·exact (hp.x.sub hb.lo.x).mono (by omega)
 ·exact (hb.hi.x.sub hp.x).mono (by omega)
 ·exact (hp.y.sub hb.lo.y).mono (by omega)
 ·exact (hb.hi.y.sub hp.y).mono (by omega)
theorem clip1_bd {k : Nat} {fr go : Rat} {lh lh' : Rat × Rat} (h1 : Bd (2 * k + 1) fr) (h2 : Bd (2 * k + 1) go) (h3 : Bd (6 * k + 4) lh.1) (h4 : Bd (6 * k + 4) lh.2) (h : clip1 fr go lh = some lh') : Bd (6 * k + 4) lh'.1 /\ Bd (6 * k + 4) lh'.2 := by
 have h5 : Bd (6 * k + 4) (-fr / (go - fr)) := (h1.neg.div (h2.sub h1)).mono (by omega)
 unfold clip1 at h
 split at h
 ·split at h
  ·cases h
  ·injection h with h; subst h; exact ⟨h3, h4⟩
 ·split at h
  ·injection h with h; subst h; exact ⟨h5, h4⟩
  ·split at h
   ·injection h with h; subst h; exact ⟨h3, h5⟩
   ·injection h with h; subst h; exact ⟨h3, h4⟩
theorem clipL_bd {k : Nat} {s : Sq} {b : Bq} (hs : BdS k s) (hb : BdB k b) : ∀ {l : List Nat} {lh lh' : Rat × Rat}, Bd (6 * k + 4) lh.1 -> Bd (6 * k + 4) lh.2 -> clipL s b l lh = some lh' -> Bd (6 * k + 4) lh'.1 /\ Bd (6 * k + 4) lh'.2
 | [], lh, lh', h1, h2, h => by simp only [clipL] at h; injection h with h; subst h; exact ⟨h1, h2⟩
 | i :: l, lh, lh', h1, h2, h => by
  simp only [clipL] at h
  split at h
  ·cases h
  ·rename_i lh2 e
   have := clip1_bd (hb.side hs.a i) (hb.side hs.b i) h1 h2 e
   exact clipL_bd hs hb this.1 this.2 h
theorem BdS.clip {k : Nat} {s : Sq} {b : Bq} (hs : BdS k s) (hb : BdB k b) : BdS (20 * k + 20) ((clipR s b).getD Sq.zero) := by
 have hz : BdS (20 * k + 20) (Option.getD none Sq.zero) := BdS.zero (by omega)
 unfold clipR
 split
 ·exact hz
 ·cases e : clipL s b [0, 1, 2, 3] (0, 1) with
  | none => exact hz
  | some lh =>
   unfold clipK
   show BdS (20 * k + 20) ((if 0 < cmpQ lh.1 lh.2 then none else some ⟨s.a.at s.b lh.1, s.a.at s.b lh.2⟩).getD Sq.zero)
   split
   ·exact hz
   ·have h1 := Bd.int (k := 6 * k + 4) (n := 1) (Nat.lt_of_lt_of_le (show 1 < 256 ^ 1 by decide) (pow256_mono (by omega))) (by omega)
    have := clipL_bd hs hb (lh := (0, 1)) (Bd.zero (by omega)) h1 e
    exact ⟨(hs.a.at hs.b this.1).mono (by omega), (hs.a.at hs.b this.2).mono (by omega)⟩
end Go.Proofs.YtfdealobplcboaaGreat.Sx
