/- Part 23 of what the statement needs: an executor of Go texts, arithmetic, and contracts of the functions that are called. -/
import Derived.Test.YtfdealobplcboaaGreatCp7
import Derived.Test.YtfdealobplcboaaGreatCp8
import Derived.Test.YtfdealobplcboaaGreatCp9
import Derived.Test.YtfdealobplcboaaGreatCp22
set_option linter.unusedVariables false
set_option linter.unusedSimpArgs false
set_option maxRecDepth 100000
set_option maxHeartbeats 8000000
namespace Go.Proofs.YtfdealobplcboaaGreat.Sx
theorem cut_z {x y u v : Rat} (h : cmpQ v 0 = 0) : cutL x y u v = x /\ cutH x y u v = y /\ cutB x y u v = decide (0 <= cmpQ u 0) := by
 unfold cutB cutL cutH
 rw [h]; simp
theorem cut_p {x y u v : Rat} (h : cmpQ v 0 = 1) : cutL x y u v = (if 0 < cmpQ (-u / v) x then -u / v else x) /\ cutH x y u v = y /\ cutB x y u v = decide (cmpQ (if 0 < cmpQ (-u / v) x then -u / v else x) y <= 0) := by
 unfold cutB cutL cutH
 rw [h]; simp
theorem cut_n {x y u v : Rat} (h0 : ¬ cmpQ v 0 = 0) (h1 : ¬ cmpQ v 0 = 1) : cutL x y u v = x /\ cutH x y u v = (if cmpQ (-u / v) y < 0 then -u / v else y) /\ cutB x y u v = decide (cmpQ x (if cmpQ (-u / v) y < 0 then -u / v else y) <= 0) := by
 have h : cmpQ v 0 = -1 := by rcases cmpQ_rng v 0 with h | h | h <;> first | exact h | exact absurd h h0 | exact absurd h h1
 unfold cutB cutL cutH
 rw [h]; simp
theorem ycut_q {k l : Nat} {x y u v : Rat} (a b c d : R) (ha : Is k a x) (hb : Is k b y) (hc : Is l c u) (hd : Is l d v) (hea : a = cr x) (heb : b = cr y) (h : 2 * l <= k /\ 2 * k <= 134217728) (r0 r1 : R) (r2 : Bool) (e0 : r0 = cr (cutL x y u v)) (e1 : r1 = cr (cutH x y u v)) (e2 : r2 = cutB x y u v) :
  Con Tryz.prog 150 [.v a.v, .v b.v, .v c.v, .v d.v] (.v (.tuple #[r0.v, r1.v, .bool r2])) := by
 have hk : 1 <= k := ha.b.pos
 obtain ⟨m, em, km⟩ := xsign_p hd (by omega)
 obtain ⟨m2, em2, km2⟩ := xsign_p hc (by omega)
 obtain ⟨n, en, hn, kn⟩ := xneg_p hc (by omega)
 obtain ⟨t, te, et, ht, ete, kt⟩ := xquo_p hn hd (by omega)
 have ht : Is k t (-u / v) := ht.mono (by omega)
 have fz : m = 0 -> r0 = a /\ r1 = b /\ decide (m2 >= 0) = r2 := by
  intro g
  have q := cut_z (x := x) (y := y) (u := u) (em ▸ g)
  rw [e0, e1, e2, q.1, q.2.1, q.2.2, hea, heb, em2]
  exact ⟨rfl, rfl, rfl⟩
 obtain ⟨m3, em3, km3⟩ := xcmp_p ht ha (by omega)
 obtain ⟨m4, em4, km4⟩ := xcmp_p ht hb (by omega)
 obtain ⟨m5, em5, km5⟩ := xcmp_p ht hb (by omega)
 obtain ⟨m6, em6, km6⟩ := xcmp_p ha ht (by omega)
 obtain ⟨m7, em7, km7⟩ := xcmp_p ha hb (by omega)
 have fp : m = 1 -> (m3 > 0 -> r0 = t /\ r1 = b /\ decide (m4 <= 0) = r2) /\ (¬ m3 > 0 -> r0 = a /\ r1 = b /\ decide (m7 <= 0) = r2) := by
  intro g
  have q := cut_p (x := x) (y := y) (u := u) (em ▸ g)
  rw [e0, e1, e2, q.1, q.2.1, q.2.2, hea, heb, em3, em4, em7, et]
  constructor
  ·intro c; rw [if_pos c]; exact ⟨rfl, rfl, rfl⟩
  ·intro c; rw [if_neg c]; exact ⟨rfl, rfl, rfl⟩
 have fn : ¬ m = 0 -> ¬ m = 1 -> (m5 < 0 -> r0 = a /\ r1 = t /\ decide (m6 <= 0) = r2) /\ (¬ m5 < 0 -> r0 = a /\ r1 = b /\ decide (m7 <= 0) = r2) := by
  intro g g'
  have q := cut_n (x := x) (y := y) (u := u) (em ▸ g) (em ▸ g')
  rw [e0, e1, e2, q.1, q.2.1, q.2.2, hea, heb, em5, em6, em7, et]
  constructor
  ·intro c; rw [if_pos c]; exact ⟨rfl, rfl, rfl⟩
  ·intro c; rw [if_neg c]; exact ⟨rfl, rfl, rfl⟩
 clear e0 e1 e2 em em2 em3 em4 em5 em6 em7 et ete hea heb ha hb hc hd
 obtain ⟨a1, a2, a3⟩ := a
 obtain ⟨b1, b2, b3⟩ := b
 obtain ⟨c1, c2, c3⟩ := c
 obtain ⟨d1, d2, d3⟩ := d
 refine Con.of ttOk mixed Tryz.func150 { ord := [(6, (.br 0 (.br 1 (.br 2 (.op 3 (.op 4 (.op 5 (.op 6 (.op 7 .nil))))) .stop) (.br 2 (.br 1 (.op 3 (.op 4 (.op 5 (.op 6 (.op 7 .nil))))) (.br 3 (.op 4 (.br 1 (.op 5 (.op 6 (.op 7 .nil))) (.br 5 (.br 1 (.op 6 (.op 7 .nil)) .stop) .stop))) .stop)) .stop)) (.br 1 (.br 0 (.br 2 (.op 3 (.op 4 (.op 5 (.op 6 (.op 7 .nil))))) .stop) (.br 2 (.br 0 (.op 3 (.op 4 (.op 5 (.op 6 (.op 7 .nil))))) (.br 3 (.op 4 (.br 0 (.op 5 (.op 6 (.op 7 .nil))) .stop)) .stop)) .stop)) (.br 2 (.br 0 (.br 1 (.op 3 (.op 4 (.op 5 (.op 6 (.op 7 .nil))))) (.br 3 (.op 4 (.br 1 (.op 5 (.op 6 (.op 7 .nil))) (.br 5 (.br 1 (.op 6 (.op 7 .nil)) .stop) .stop))) .stop)) (.br 1 (.br 0 (.op 3 (.op 4 (.op 5 (.op 6 (.op 7 .nil))))) (.br 3 (.op 4 (.br 0 (.op 5 (.op 6 (.op 7 .nil))) .stop)) .stop)) (.br 3 (.op 4 (.br 0 (.br 1 (.op 5 (.op 6 (.op 7 .nil))) (.br 5 (.br 1 (.op 6 (.op 7 .nil)) .stop) .stop)) (.br 1 (.br 0 (.op 5 (.op 6 (.op 7 .nil))) .stop) .stop))) .stop))) .stop)))), (8, (.op 0 (.op 2 (.br 1 (.br 3 (.op 4 (.op 5 (.op 6 (.op 7 (.op 8 (.op 9 .nil)))))) (.br 7 (.op 3 (.op 4 (.op 5 (.op 6 (.op 8 (.op 9 .nil)))))) .stop)) (.br 7 (.op 1 (.op 3 (.op 4 (.op 5 (.op 6 (.op 8 (.op 9 .nil))))))) .stop))))), (2, (.op 0 (.op 2 (.br 1 (.br 3 (.op 4 (.op 5 (.op 6 (.op 7 (.op 8 (.op 9 .nil)))))) (.br 7 (.op 3 (.op 4 (.op 5 (.op 6 (.op 8 (.op 9 .nil)))))) .stop)) (.br 7 (.op 1 (.op 3 (.op 4 (.op 5 (.op 6 (.op 8 (.op 9 .nil))))))) .stop))))), (11, (.br 0 (.br 1 (.br 2 (.br 3 (.op 4 (.op 5 (.op 6 (.op 7 (.op 8 .nil))))) .stop) (.br 3 (.br 2 (.op 4 (.op 5 (.op 6 (.op 7 (.op 8 .nil))))) .stop) .stop)) (.br 2 (.br 1 (.br 3 (.op 4 (.op 5 (.op 6 (.op 7 (.op 8 .nil))))) .stop) (.br 3 (.br 1 (.op 4 (.op 5 (.op 6 (.op 7 (.op 8 .nil))))) (.br 4 (.op 5 (.br 1 (.op 6 (.op 7 (.op 8 .nil))) (.br 6 (.br 1 (.op 7 (.op 8 .nil)) .stop) .stop))) .stop)) .stop)) (.br 3 (.br 1 (.br 2 (.op 4 (.op 5 (.op 6 (.op 7 (.op 8 .nil))))) .stop) (.br 2 (.br 1 (.op 4 (.op 5 (.op 6 (.op 7 (.op 8 .nil))))) (.br 4 (.op 5 (.br 1 (.op 6 (.op 7 (.op 8 .nil))) (.br 6 (.br 1 (.op 7 (.op 8 .nil)) .stop) .stop))) .stop)) .stop)) .stop))) (.br 1 (.br 0 (.br 2 (.br 3 (.op 4 (.op 5 (.op 6 (.op 7 (.op 8 .nil))))) .stop) (.br 3 (.br 2 (.op 4 (.op 5 (.op 6 (.op 7 (.op 8 .nil))))) .stop) .stop)) (.br 2 (.br 0 (.br 3 (.op 4 (.op 5 (.op 6 (.op 7 (.op 8 .nil))))) .stop) (.br 3 (.br 0 (.op 4 (.op 5 (.op 6 (.op 7 (.op 8 .nil))))) (.br 4 (.op 5 (.br 0 (.op 6 (.op 7 (.op 8 .nil))) .stop)) .stop)) .stop)) (.br 3 (.br 0 (.br 2 (.op 4 (.op 5 (.op 6 (.op 7 (.op 8 .nil))))) .stop) (.br 2 (.br 0 (.op 4 (.op 5 (.op 6 (.op 7 (.op 8 .nil))))) (.br 4 (.op 5 (.br 0 (.op 6 (.op 7 (.op 8 .nil))) .stop)) .stop)) .stop)) .stop))) (.br 2 (.br 0 (.br 1 (.br 3 (.op 4 (.op 5 (.op 6 (.op 7 (.op 8 .nil))))) .stop) (.br 3 (.br 1 (.op 4 (.op 5 (.op 6 (.op 7 (.op 8 .nil))))) (.br 4 (.op 5 (.br 1 (.op 6 (.op 7 (.op 8 .nil))) (.br 6 (.br 1 (.op 7 (.op 8 .nil)) .stop) .stop))) .stop)) .stop)) (.br 1 (.br 0 (.br 3 (.op 4 (.op 5 (.op 6 (.op 7 (.op 8 .nil))))) .stop) (.br 3 (.br 0 (.op 4 (.op 5 (.op 6 (.op 7 (.op 8 .nil))))) (.br 4 (.op 5 (.br 0 (.op 6 (.op 7 (.op 8 .nil))) .stop)) .stop)) .stop)) (.br 3 (.br 0 (.br 1 (.op 4 (.op 5 (.op 6 (.op 7 (.op 8 .nil))))) (.br 4 (.op 5 (.br 1 (.op 6 (.op 7 (.op 8 .nil))) (.br 6 (.br 1 (.op 7 (.op 8 .nil)) .stop) .stop))) .stop)) (.br 1 (.br 0 (.op 4 (.op 5 (.op 6 (.op 7 (.op 8 .nil))))) (.br 4 (.op 5 (.br 0 (.op 6 (.op 7 (.op 8 .nil))) .stop)) .stop)) (.br 4 (.op 5 (.br 0 (.br 1 (.op 6 (.op 7 (.op 8 .nil))) (.br 6 (.br 1 (.op 7 (.op 8 .nil)) .stop) .stop)) (.br 1 (.br 0 (.op 6 (.op 7 (.op 8 .nil))) .stop) .stop))) .stop))) .stop))) (.br 3 (.br 0 (.br 1 (.br 2 (.op 4 (.op 5 (.op 6 (.op 7 (.op 8 .nil))))) .stop) (.br 2 (.br 1 (.op 4 (.op 5 (.op 6 (.op 7 (.op 8 .nil))))) (.br 4 (.op 5 (.br 1 (.op 6 (.op 7 (.op 8 .nil))) (.br 6 (.br 1 (.op 7 (.op 8 .nil)) .stop) .stop))) .stop)) .stop)) (.br 1 (.br 0 (.br 2 (.op 4 (.op 5 (.op 6 (.op 7 (.op 8 .nil))))) .stop) (.br 2 (.br 0 (.op 4 (.op 5 (.op 6 (.op 7 (.op 8 .nil))))) (.br 4 (.op 5 (.br 0 (.op 6 (.op 7 (.op 8 .nil))) .stop)) .stop)) .stop)) (.br 2 (.br 0 (.br 1 (.op 4 (.op 5 (.op 6 (.op 7 (.op 8 .nil))))) (.br 4 (.op 5 (.br 1 (.op 6 (.op 7 (.op 8 .nil))) (.br 6 (.br 1 (.op 7 (.op 8 .nil)) .stop) .stop))) .stop)) (.br 1 (.br 0 (.op 4 (.op 5 (.op 6 (.op 7 (.op 8 .nil))))) (.br 4 (.op 5 (.br 0 (.op 6 (.op 7 (.op 8 .nil))) .stop)) .stop)) (.br 4 (.op 5 (.br 0 (.br 1 (.op 6 (.op 7 (.op 8 .nil))) (.br 6 (.br 1 (.op 7 (.op 8 .nil)) .stop) .stop)) (.br 1 (.br 0 (.op 6 (.op 7 (.op 8 .nil))) .stop) .stop))) .stop))) .stop))) .stop)))))] } .nil 0 (by kernel_rfl) (fun P' E hP hE => ?_)
 cbv
 refine CallTo.w hP hE km ⟨rfl, trivial⟩ ?_
 cbv
 refine fork.mk ?_ ?_
 ·intro g1
  have q := fz (by subst hE; exact of_decide_eq_true (show decide (m = 0) = true from g1))
  have q3 := q.2.2
  rw [q.1, q.2.1]
  clear fz fp fn q
  cbv
  refine DrawTo.run ?_
  cbv
  repeat' first
   | exact True.intro
   | (refine Both.mk ?_ ?_ <;> cbv)
   | (refine CallTo.w hP hE km2 ⟨rfl, trivial⟩ ?_; cbv)
   | (rw [<- q3]; subst hE; rfl)
 ·intro g1
  have g1 : ¬ m = 0 := by subst hE; exact of_decide_eq_false (show decide (m = 0) = false from g1)
  have fn := fn g1
  clear fz
  cbv
  refine fork.mk ?_ ?_
  ·intro g2
   have fp := fp (by subst hE; exact of_decide_eq_true (show decide (m = 1) = true from g2))
   clear fn g1 g2
   cbv
   refine DrawTo.byU [(11, .p 10 0), (12, .v (.int .i64 te))] [.cells t.av 23] ?_ ?_
   ·cbv
    repeat' first
     | exact True.intro
     | (refine Both.mk ?_ ?_ <;> cbv)
     | (refine CallTo.w hP hE kn ⟨rfl, trivial⟩ ?_; cbv)
     | (refine CallTo.w hP hE kt ⟨rfl, rfl, trivial⟩ ?_; cbv)
     | (simp only [and_self]; done)
   cbv
   refine CallTo.w hP hE km3 ⟨rfl, rfl, trivial⟩ ?_
   cbv
   refine fork.mk ?_ ?_
   ·intro g3
    have q := fp.1 (by subst hE; exact of_decide_eq_true (show decide (m3 > 0) = true from g3))
    have q3 := q.2.2
    rw [q.1, q.2.1]
    clear fp q g3
    cbv
    refine DrawTo.run ?_
    cbv
    repeat' first
     | exact True.intro
     | (refine Both.mk ?_ ?_ <;> cbv)
     | (refine CallTo.w hP hE km4 ⟨rfl, rfl, trivial⟩ ?_; cbv)
     | (rw [<- q3]; subst hE; rfl)
   ·intro g3
    have q := fp.2 (by subst hE; exact of_decide_eq_false (show decide (m3 > 0) = false from g3))
    have q3 := q.2.2
    rw [q.1, q.2.1]
    clear fp q g3
    cbv
    refine DrawTo.run ?_
    cbv
    repeat' first
     | exact True.intro
     | (refine Both.mk ?_ ?_ <;> cbv)
     | (refine CallTo.w hP hE km7 ⟨rfl, rfl, trivial⟩ ?_; cbv)
     | (rw [<- q3]; subst hE; rfl)
  ·intro g2
   have fn := fn (by subst hE; exact of_decide_eq_false (show decide (m = 1) = false from g2))
   clear fp g1 g2
   cbv
   refine DrawTo.byU [(13, .p 10 0), (14, .v (.int .i64 te))] [.cells t.av 23] ?_ ?_
   ·cbv
    repeat' first
     | exact True.intro
     | (refine Both.mk ?_ ?_ <;> cbv)
     | (refine CallTo.w hP hE kn ⟨rfl, trivial⟩ ?_; cbv)
     | (refine CallTo.w hP hE kt ⟨rfl, rfl, trivial⟩ ?_; cbv)
     | (simp only [and_self]; done)
   cbv
   refine CallTo.w hP hE km5 ⟨rfl, rfl, trivial⟩ ?_
   cbv
   refine fork.mk ?_ ?_
   ·intro g3
    have q := fn.1 (by subst hE; exact of_decide_eq_true (show decide (m5 < 0) = true from g3))
    have q3 := q.2.2
    rw [q.1, q.2.1]
    clear fn q g3
    cbv
    refine DrawTo.run ?_
    cbv
    repeat' first
     | exact True.intro
     | (refine Both.mk ?_ ?_ <;> cbv)
     | (refine CallTo.w hP hE km6 ⟨rfl, rfl, trivial⟩ ?_; cbv)
     | (rw [<- q3]; subst hE; rfl)
   ·intro g3
    have q := fn.2 (by subst hE; exact of_decide_eq_false (show decide (m5 < 0) = false from g3))
    have q3 := q.2.2
    rw [q.1, q.2.1]
    clear fn q g3
    cbv
    refine DrawTo.run ?_
    cbv
    repeat' first
     | exact True.intro
     | (refine Both.mk ?_ ?_ <;> cbv)
     | (refine CallTo.w hP hE km7 ⟨rfl, rfl, trivial⟩ ?_; cbv)
     | (rw [<- q3]; subst hE; rfl)
theorem ycut_p {k l : Nat} {x y u v : Rat} {a b c d : R} (ha : Is k a x) (hb : Is k b y) (hc : Is l c u) (hd : Is l d v) (hea : a = cr x) (heb : b = cr y) (h : 2 * l <= k /\ 2 * k <= 134217728) : ∃ (r0 r1 : R) (r2 : Bool), r0 = cr (cutL x y u v) /\ Is k r0 (cutL x y u v) /\ r1 = cr (cutH x y u v) /\ Is k r1 (cutH x y u v) /\ r2 = cutB x y u v /\ Con Tryz.prog 150 [.v a.v, .v b.v, .v c.v, .v d.v] (.v (.tuple #[r0.v, r1.v, .bool r2])) :=
 ⟨_, _, _, rfl, (ha.b.cutL hc.b hd.b h.1).is, rfl, (hb.b.cutH hc.b hd.b h.1).is, rfl, ycut_q a b c d ha hb hc hd hea heb h _ _ _ rfl rfl rfl⟩
end Go.Proofs.YtfdealobplcboaaGreat.Sx

set_option linter.unusedVariables false
set_option linter.unusedSimpArgs false
set_option maxRecDepth 100000
set_option maxHeartbeats 8000000
namespace Go.Proofs.YtfdealobplcboaaGreat.Sx
theorem yclip_q {a : Sg} {S : Sq} {k : Nat} {b : Bx} {B : Bq} (ha : IsS k a S) (hb : IsB k b B) (h : 40 * k + 40 <= 134217728) : Con Tryz.prog 66 [.v a.v, .v b.v] (.v (.tuple #[(crS ((clipR S B).getD Sq.zero)).v, .bool ((clipR S B).isSome), .int .i64 (clipE S B)])) := by
 obtain ⟨⟨⟨an0, au0, ad0⟩, ⟨an1, au1, ad1⟩⟩, ⟨⟨an2, au2, ad2⟩, ⟨an3, au3, ad3⟩⟩⟩ := a
 have haa : IsP k ⟨⟨an0, au0, ad0⟩, ⟨an1, au1, ad1⟩⟩ S.a := ha.a
 have hab : IsP k ⟨⟨an2, au2, ad2⟩, ⟨an3, au3, ad3⟩⟩ S.b := ha.b
 have haax : Is k ⟨an0, au0, ad0⟩ S.a.x := ha.a.x
 have haay : Is k ⟨an1, au1, ad1⟩ S.a.y := ha.a.y
 have habx : Is k ⟨an2, au2, ad2⟩ S.b.x := ha.b.x
 have haby : Is k ⟨an3, au3, ad3⟩ S.b.y := ha.b.y
 obtain ⟨⟨⟨bn0, bu0, bd0⟩, ⟨bn1, bu1, bd1⟩⟩, ⟨⟨bn2, bu2, bd2⟩, ⟨bn3, bu3, bd3⟩⟩⟩ := b
 have hblo : IsP k ⟨⟨bn0, bu0, bd0⟩, ⟨bn1, bu1, bd1⟩⟩ B.lo := hb.lo
 have hbhi : IsP k ⟨⟨bn2, bu2, bd2⟩, ⟨bn3, bu3, bd3⟩⟩ B.hi := hb.hi
 have hblox : Is k ⟨bn0, bu0, bd0⟩ B.lo.x := hb.lo.x
 have hbloy : Is k ⟨bn1, bu1, bd1⟩ B.lo.y := hb.lo.y
 have hbhix : Is k ⟨bn2, bu2, bd2⟩ B.hi.x := hb.hi.x
 have hbhiy : Is k ⟨bn3, bu3, bd3⟩ B.hi.y := hb.hi.y
 obtain ⟨r0, e0⟩ : ∃ r, r = crS ((clipR S B).getD Sq.zero) := ⟨_, rfl⟩
 rw [<- e0]
 obtain ⟨r1, e1⟩ : ∃ r, r = (clipR S B).isSome := ⟨_, rfl⟩
 rw [<- e1]
 obtain ⟨r2, e2⟩ : ∃ r, r = clipE S B := ⟨_, rfl⟩
 rw [<- e2]
 obtain ⟨s, rfl⟩ : ∃ s, s = S := ⟨_, rfl⟩
 have hz : Is (6 * k + 4) ⟨false, ⟨⟨[]⟩⟩, ⟨⟨[]⟩⟩⟩ 0 := Is.zero.mono (by omega)
 have hzc : (⟨false, ⟨⟨[]⟩⟩, ⟨⟨[]⟩⟩⟩ : R) = cr 0 := cr_zero.symm
 obtain ⟨o, eo, ko, ho⟩ : ∃ o : R, o = cr 1 /\ Con Tryz.prog 149 [.v (.int .i64 1)] (.v o.v) /\ Is (6 * k + 4) o 1 := ⟨_, rfl, xof_q 1 (by decide) (by decide), Is.one.mono (by omega)⟩
 obtain ⟨d, ed, hd, kd⟩ := ysub_p hab haa (by omega)
 obtain ⟨f0, ef0, hf0, kf0⟩ := xsub_p haax hblox (by omega)
 obtain ⟨f1, ef1, hf1, kf1⟩ := xsub_p hbhix haax (by omega)
 obtain ⟨f2, ef2, hf2, kf2⟩ := xsub_p haay hbloy (by omega)
 obtain ⟨f3, ef3, hf3, kf3⟩ := xsub_p hbhiy haay (by omega)
 obtain ⟨n1, en1, hn1, kn1⟩ := xneg_p hd.x (by omega)
 obtain ⟨n3, en3, hn3, kn3⟩ := xneg_p hd.y (by omega)
 have hdx := hd.x
 have hdy := hd.y
 have hf0 : Is (2 * k + 1) f0 (sideQ B 0 s.a) := hf0.mono (by omega)
 have hf1 : Is (2 * k + 1) f1 (sideQ B 1 s.a) := hf1.mono (by omega)
 have hf2 : Is (2 * k + 1) f2 (sideQ B 2 s.a) := hf2.mono (by omega)
 have hf3 : Is (2 * k + 1) f3 (sideQ B 3 s.a) := hf3.mono (by omega)
 have hd0 : Is (2 * k + 1) d.x (slopeQ (s.b.sub s.a) 0) := hdx.mono (by omega)
 have hd1 : Is (2 * k + 1) n1 (slopeQ (s.b.sub s.a) 1) := hn1.mono (by omega)
 have hd2 : Is (2 * k + 1) d.y (slopeQ (s.b.sub s.a) 2) := hdy.mono (by omega)
 have hd3 : Is (2 * k + 1) n3 (slopeQ (s.b.sub s.a) 3) := hn3.mono (by omega)
 obtain ⟨l1, h1, b1, el1, hl1, eh1, hh1, eb1, k1⟩ := ycut_p hz ho hf0 hd0 hzc eo (by omega)
 obtain ⟨l2, h2, b2, el2, hl2, eh2, hh2, eb2, k2⟩ := ycut_p hl1 hh1 hf1 hd1 el1 eh1 (by omega)
 obtain ⟨l3, h3, b3, el3, hl3, eh3, hh3, eb3, k3⟩ := ycut_p hl2 hh2 hf2 hd2 el2 eh2 (by omega)
 obtain ⟨l4, h4, b4, el4, hl4, eh4, hh4, eb4, k4⟩ := ycut_p hl3 hh3 hf3 hd3 el3 eh3 (by omega)
 obtain ⟨p1, ep1, hp1, kp1⟩ := yat_p haa hab hl4 (by omega)
 obtain ⟨p2, ep2, hp2, kp2⟩ := yat_p haa hab hh4 (by omega)
 have q12 : chkQ s ≠ 0 -> r0 = crS Sq.zero /\ r1 = false /\ r2 = 12 := by
  intro h
  have hm : clipE s B = 12 := by rw [clipE, if_pos h]
  have hr : clipR s B = none := by rw [clipR, if_pos (by rw [hm]; simp)]
  rw [e0, e1, e2, hr, hm]; exact ⟨rfl, rfl, rfl⟩
 have q1 : chkQ s = 0 -> (0 < cmpQ B.lo.x B.hi.x \/ 0 < cmpQ B.lo.y B.hi.y) -> r0 = crS Sq.zero /\ r1 = false /\ r2 = 1 := by
  intro h h'
  have hm : clipE s B = 1 := by rw [clipE, if_neg (fun c => c h), if_pos h']
  have hr : clipR s B = none := by rw [clipR, if_pos (by rw [hm]; simp)]
  rw [e0, e1, e2, hr, hm]; exact ⟨rfl, rfl, rfl⟩
 have fin : chkQ s = 0 -> ¬ (0 < cmpQ B.lo.x B.hi.x \/ 0 < cmpQ B.lo.y B.hi.y) -> r2 = 0 /\ ((b1 && (b2 && (b3 && b4))) = true -> r0 = ⟨p1, p2⟩ /\ r1 = true) /\ ((b1 && (b2 && (b3 && b4))) = false -> r0 = crS Sq.zero /\ r1 = false) := by
  intro h h'
  have hm : clipE s B = 0 := by rw [clipE, if_neg (fun c => c h), if_neg h']
  have hr := clipRR_eq hm
  unfold clipRR at hr
  simp only [cutsQ] at hr
  rw [<- eb1] at hr
  rw [<- eb2] at hr
  rw [<- eb3] at hr
  rw [<- eb4] at hr
  refine ⟨e2.trans hm, fun hb => ?_, fun hb => ?_⟩
  ·have g : b1 = true /\ b2 = true /\ b3 = true /\ b4 = true := by simpa [Bool.and_eq_true] using hb
   rw [if_pos g.1, if_pos g.2.1, if_pos g.2.2.1, if_pos g.2.2.2] at hr
   rw [e0, e1, <- hr, ep1, ep2]; exact ⟨rfl, rfl⟩
  ·have hn : clipR s B = none := by
    rw [<- hr]
    by_cases g1 : b1 = true
    ·rw [if_pos g1]
     by_cases g2 : b2 = true
     ·rw [if_pos g2]
      by_cases g3 : b3 = true
      ·rw [if_pos g3]
       by_cases g4 : b4 = true
       ·rw [g1, g2, g3, g4] at hb; cases hb
       ·rw [if_neg g4]
      ·rw [if_neg g3]
     ·rw [if_neg g2]
    ·rw [if_neg g1]
   rw [e0, e1, hn]; exact ⟨rfl, rfl⟩
 clear e0 e1 e2 ed ef0 ef1 ef2 ef3 en1 en3 el1 eh1 eb1 el2 eh2 eb2 el3 eh3 eb3 el4 eh4 eb4 ep1 ep2 hzc hz ho hd eo
 clear hf0 hf1 hf2 hf3 hd0 hd1 hd2 hd3 hdx hdy hn1 hn3 hl1 hh1 hl2 hh2 hl3 hh3 hl4 hh4 hp1 hp2
 refine Con.of ttOk mixed Tryz.func66 { ord := [(6, [0, 1, 2, 3, 4, 5, 7, 8, 9, 10, 11, 12, 14, 15, 16, 17, 18, 19, 21, 22, 23, 24, 25, 26, 6, 13, 20, 27, 28, 29]), (7, [0, 1, 2, 3, 5, 6, 7, 8, 4, 9, 10, 11]), (12, [0, 1, 2, 3, 4, 5, 6, 7, 8, 9, 10, 11, 12, 13, 14, 15, 16, 17]), (15, [0, 1, 2, 3, 4, 6, 7, 8, 9, 10, 5, 11, 12, 13, 14, 15])], un := [(10, 5)] } .nil 0 (by kernel_rfl) (fun P' E hP hE => ?_)
 cbv
 refine ychk_c hP hE ha (by omega) ?_
 intro m1 em1
 cbv
 refine fork.mk ?_ ?_
 ·intro g1
  have q := q12 (by subst hE; simp [Env.std] at g1; rw [<- em1]; exact g1)
  cbv
  rw [q.1, q.2.1, q.2.2, crS_zero]
 ·intro g1
  have g1 : chkQ s = 0 := by subst hE; simp [Env.std] at g1; rw [<- em1]; exact g1
  have q1 := q1 g1
  have fin := fin g1
  clear q12 em1 g1
  cbv
  refine xcmp_c hP hE hblox hbhix (by omega) ?_
  intro m2 em2
  cbv
  refine fork.mk ?_ ?_
  ·intro g2
   have q := q1 (.inl (by rw [<- em2]; subst hE; exact of_decide_eq_true (show decide (m2 > 0) = true from g2)))
   cbv
   rw [q.1, q.2.1, q.2.2, crS_zero]
  ·intro g2
   have g2 : ¬ 0 < cmpQ B.lo.x B.hi.x := by rw [<- em2]; subst hE; exact of_decide_eq_false (show decide (m2 > 0) = false from g2)
   cbv
   refine xcmp_c hP hE hbloy hbhiy (by omega) ?_
   intro m3 em3
   cbv
   refine fork.mk ?_ ?_
   ·intro g3
    have q := q1 (.inr (by rw [<- em3]; subst hE; exact of_decide_eq_true (show decide (m3 > 0) = true from g3)))
    cbv
    rw [q.1, q.2.1, q.2.2, crS_zero]
   ·intro g3
    have g3 : ¬ 0 < cmpQ B.lo.y B.hi.y := by rw [<- em3]; subst hE; exact of_decide_eq_false (show decide (m3 > 0) = false from g3)
    have fin := fin (fun h => h.elim g2 g3)
    have fr2 := fin.1
    have ft := fin.2.1
    have ff := fin.2.2
    rw [fr2]
    clear q1 fin em2 em3 g2 g3
    cbv
    refine CallTo.w hP hE kd ⟨rfl, rfl, trivial⟩ ?_
    cbv
    refine CallTo.w hP hE kf0 ⟨rfl, rfl, trivial⟩ ?_
    cbv
    refine CallTo.w hP hE kf1 ⟨rfl, rfl, trivial⟩ ?_
    cbv
    refine CallTo.w hP hE kf2 ⟨rfl, rfl, trivial⟩ ?_
    cbv
    refine CallTo.w hP hE kf3 ⟨rfl, rfl, trivial⟩ ?_
    cbv
    refine CallTo.w hP hE kn1 ⟨rfl, trivial⟩ ?_
    cbv
    refine CallTo.w hP hE kn3 ⟨rfl, trivial⟩ ?_
    cbv
    refine CallTo.w hP hE ko ⟨rfl, trivial⟩ ?_
    cbv
    refine CallTo.w hP hE k1 ⟨rfl, rfl, rfl, rfl, trivial⟩ ?_
    cbv
    refine fork.mk ?_ ?_
    rotate_left
    ·intro z1
     have q := ff (by rw [z1]; rfl)
     cbv
     refine fork.ya (by subst hE; simp [Env.std, z1]) ?_
     cbv
     rw [q.1, q.2, crS_zero]
    intro z1
    cbv
    refine CallTo.w hP hE k2 ⟨rfl, rfl, rfl, rfl, trivial⟩ ?_
    cbv
    refine fork.mk ?_ ?_
    rotate_left
    ·intro z2
     have q := ff (by rw [z2]; simp)
     cbv
     refine fork.ya (by subst hE; simp [Env.std, z2]) ?_
     cbv
     rw [q.1, q.2, crS_zero]
    intro z2
    cbv
    refine CallTo.w hP hE k3 ⟨rfl, rfl, rfl, rfl, trivial⟩ ?_
    cbv
    refine fork.mk ?_ ?_
    rotate_left
    ·intro z3
     have q := ff (by rw [z3]; simp)
     cbv
     refine fork.ya (by subst hE; simp [Env.std, z3]) ?_
     cbv
     rw [q.1, q.2, crS_zero]
    intro z3
    cbv
    refine CallTo.w hP hE k4 ⟨rfl, rfl, rfl, rfl, trivial⟩ ?_
    cbv
    refine fork.mk ?_ ?_
    ·intro z4
     have z4 : b4 = false := by subst hE; simpa [Env.std] using z4
     have q := ff (by rw [z4]; simp)
     cbv
     rw [q.1, q.2, crS_zero]
    intro z4
    have z4 : b4 = true := by subst hE; simpa [Env.std] using z4
    have q := ft (by rw [z1, z2, z3, z4]; rfl)
    rw [q.1, q.2]
    cbv
    try refine DrawTo.run ?_
    try cbv
    repeat' first
     | exact True.intro
     | (refine Both.mk ?_ ?_ <;> cbv)
     | (refine CallTo.w hP hE kp1 ⟨rfl, rfl, rfl, trivial⟩ ?_; cbv)
     | (refine CallTo.w hP hE kp2 ⟨rfl, rfl, rfl, trivial⟩ ?_; cbv)
     | (simp only [and_self]; done)
theorem yclip_p {a : Sg} {S : Sq} {k : Nat} {b : Bx} {B : Bq} (ha : IsS k a S) (hb : IsB k b B) (h : 40 * k + 40 <= 134217728) : ∃ (r0 : Sg) (r1 : Bool) (r2 : Int), r0 = crS ((clipR S B).getD Sq.zero) /\ IsS (20 * k + 20) r0 ((clipR S B).getD Sq.zero) /\ r1 = (clipR S B).isSome /\ r2 = clipE S B /\ Con Tryz.prog 66 [.v a.v, .v b.v] (.v (.tuple #[r0.v, .bool r1, .int .i64 r2])) := ⟨_, _, _, rfl, (ha.bd.clip hb.bd).is, rfl, rfl, yclip_q ha hb h⟩
end Go.Proofs.YtfdealobplcboaaGreat.Sx

set_option linter.unusedVariables false
set_option linter.unusedSimpArgs false
namespace Go.Proofs.YtfdealobplcboaaGreat.Sx
def ltP (p q : Pq) : Prop := cmpP p q < 0
theorem ltP_iff {p q : Pq} : ltP p q ↔ ¬ leP q p := cmpP_neg
theorem ltP_irr (p : Pq) : ¬ ltP p p := fun h => ltP_iff.1 h (leP_refl p)
theorem ltP_trans {p q r : Pq} (h : ltP p q) (h' : ltP q r) : ltP p r := by
 unfold ltP at *; rw [cmpP_lt] at *; grind
theorem ltP_tri (p q : Pq) : ltP p q \/ p = q \/ ltP q p := by
 by_cases h : leP q p
 ·by_cases h' : leP p q
  ·exact .inr (.inl (leP_anti h' h))
  ·exact .inr (.inr (ltP_iff.2 h'))
 ·exact .inl (ltP_iff.2 h)
theorem ltP_le {p q : Pq} (h : ltP p q) : leP p q := (leP_total p q).elim id fun c => absurd c (ltP_iff.1 h)
theorem leP_ne {p q : Pq} (h : leP p q) (hn : p ≠ q) : ltP p q := ltP_iff.2 fun c => hn (leP_anti h c)
/-- Strictly ascending. -/
abbrev SS (l : List Pq) : Prop := l.Pairwise ltP
/-- Ascending. -/
abbrev WS (l : List Pq) : Prop := l.Pairwise leP
theorem SS.uniq : ∀ {l l' : List Pq}, SS l -> SS l' -> (∀ x, x ∈ l ↔ x ∈ l') -> l = l'
 | [], [], _, _, _ => rfl
 | [], y :: l', _, _, h => absurd ((h y).2 (by simp)) (by simp)
 | x :: l, [], _, _, h => absurd ((h x).1 (by simp)) (by simp)
 | x :: l, y :: l', h1, h2, h => by
  have a1 := List.pairwise_cons.1 h1
  have a2 := List.pairwise_cons.1 h2
  have hxy : x = y := by
   rcases List.mem_cons.1 ((h x).1 (by simp)) with e | e
   ·exact e
   ·rcases List.mem_cons.1 ((h y).2 (by simp)) with e' | e'
    ·exact e'.symm
    ·exact absurd (ltP_trans (a1.1 y e') (a2.1 x e)) (ltP_irr x)
  subst hxy
  have : l = l' := SS.uniq a1.2 a2.2 (fun z => by
   constructor
   ·intro hz
    rcases List.mem_cons.1 ((h z).1 (by simp [hz])) with e | e
    ·subst e; exact absurd (a1.1 _ hz) (ltP_irr _)
    ·exact e
   ·intro hz
    rcases List.mem_cons.1 ((h z).2 (by simp [hz])) with e | e
    ·subst e; exact absurd (a2.1 _ hz) (ltP_irr _)
    ·exact e)
  rw [this]
/-- A point put into a strictly ascending list. -/
def insU (p : Pq) : List Pq -> List Pq
 | [] => [p]
 | x :: l => if cmpP p x < 0 then p :: x :: l else if cmpP p x = 0 then x :: l else x :: insU p l
/-- The points of a list, strictly ascending. -/
def setL (l : List Pq) : List Pq := l.foldr insU []
theorem mem_insU {p x : Pq} : ∀ {l : List Pq}, x ∈ insU p l ↔ x = p \/ x ∈ l
 | [] => by simp [insU]
 | y :: l => by
  unfold insU
  split
  ·simp
  ·split
   ·rename_i h
    have := cmpP_eq.1 h
    subst this; simp
   ·simp only [List.mem_cons, mem_insU (l := l)]
    constructor
    ·rintro (h | h | h) <;> simp [h]
    ·rintro (h | h | h) <;> simp [h]
theorem insU_ss {p : Pq} : ∀ {l : List Pq}, SS l -> SS (insU p l)
 | [], _ => by simp [insU, SS]
 | y :: l, h => by
  have a := List.pairwise_cons.1 h
  unfold insU
  split
  ·rename_i c
   exact List.pairwise_cons.2 ⟨fun x hx => by
    rcases List.mem_cons.1 hx with e | e
    ·subst e; exact c
    ·exact ltP_trans c (a.1 x e), h⟩
  ·split
   ·exact h
   ·rename_i c1 c2
    refine List.pairwise_cons.2 ⟨fun x hx => ?_, insU_ss a.2⟩
    rcases mem_insU.1 hx with e | e
    ·subst e
     rcases ltP_tri x y with q | q | q
     ·exact absurd q c1
     ·exact absurd (cmpP_eq.2 q) c2
     ·exact q
    ·exact a.1 x e
theorem setL_ss : ∀ (l : List Pq), SS (setL l)
 | [] => List.Pairwise.nil
 | p :: l => insU_ss (setL_ss l)
theorem mem_setL {x : Pq} : ∀ {l : List Pq}, x ∈ setL l ↔ x ∈ l
 | [] => by simp [setL]
 | p :: l => by
  show x ∈ insU p (setL l) ↔ _
  rw [mem_insU, mem_setL (l := l), List.mem_cons]
theorem setL_eq {l l' : List Pq} (h : SS l') (hm : ∀ x, x ∈ l' ↔ x ∈ l) : l' = setL l :=
 SS.uniq h (setL_ss l) (fun x => by rw [hm, mem_setL])
/-- Is a point the last one? -/
def lastIs (l : List Pq) (p : Pq) : Bool := match l.getLast? with
 | none => false
 | some q => decide (cmpP p q = 0)
/-- A list without what stands twice, one behind the other: point after point. -/
def ddS (acc : List Pq) (p : Pq) : List Pq := if lastIs acc p = true then acc else acc ++ [p]
def dd (l : List Pq) : List Pq := l.foldl ddS []
theorem dd_snoc (l : List Pq) (p : Pq) : dd (l ++ [p]) = ddS (dd l) p := by unfold dd; rw [List.foldl_append]; rfl
theorem ddS_last (acc : List Pq) (p : Pq) : (ddS acc p).getLast? = some p := by
 unfold ddS
 by_cases h : lastIs acc p = true
 ·rw [if_pos h]
  unfold lastIs at h
  cases e : acc.getLast? with
  | none => rw [e] at h; cases h
  | some q =>
   rw [e] at h
   have := cmpP_eq.1 (of_decide_eq_true h)
   rw [this]
 ·rw [if_neg h]; simp
theorem dd_last (l : List Pq) (p : Pq) : (dd (l ++ [p])).getLast? = some p := by rw [dd_snoc]; exact ddS_last _ _
theorem mem_ddS {acc : List Pq} {p x : Pq} : x ∈ ddS acc p ↔ x ∈ acc \/ x = p := by
 have hl := List.mem_of_getLast? (ddS_last acc p)
 unfold ddS at *
 by_cases h : lastIs acc p = true
 ·rw [if_pos h] at *
  exact ⟨.inl, fun c => c.elim id fun e => e ▸ hl⟩
 ·rw [if_neg h]; simp
theorem mem_dd {x : Pq} (l : List Pq) : x ∈ dd l ↔ x ∈ l := by
 have key : ∀ (l acc : List Pq), x ∈ l.foldl ddS acc ↔ x ∈ acc \/ x ∈ l := by
  intro l
  induction l with
  | nil => intro acc; simp
  | cons p l ih =>
   intro acc
   rw [List.foldl_cons, ih, mem_ddS, List.mem_cons, or_assoc]
 unfold dd
 rw [key]; simp
/-- Of a list that ascends, or descends, each point is left once. -/
theorem dd_by {le : Pq -> Pq -> Prop} (hrefl : ∀ p, le p p) (hanti : ∀ {p q}, le p q -> le q p -> p = q) {l : List Pq} (h : l.Pairwise le) : (dd l).Pairwise (fun x y => le x y /\ x ≠ y) := by
 have key : ∀ (l acc : List Pq), acc.Pairwise (fun x y => le x y /\ x ≠ y) -> (∀ x ∈ acc, ∀ y ∈ l, le x y) -> l.Pairwise le -> (∀ y, acc.getLast? = some y -> ∀ x ∈ acc, le x y) -> (l.foldl ddS acc).Pairwise (fun x y => le x y /\ x ≠ y) := by
  intro l
  induction l with
  | nil => intro acc h _ _ _; exact h
  | cons p l ih =>
   intro acc h h1 h2 h3
   rw [List.foldl_cons]
   have a := List.pairwise_cons.1 h2
   have hl : ∀ x ∈ ddS acc p, le x p := by
    intro x hx
    rcases mem_ddS.1 hx with e | e
    ·exact h1 x e p (by simp)
    ·subst e; exact hrefl _
   refine ih _ ?_ ?_ a.2 ?_
   ·unfold ddS
    by_cases c : lastIs acc p = true
    ·rw [if_pos c]; exact h
    ·rw [if_neg c]
     refine List.pairwise_append.2 ⟨h, by simp, ?_⟩
     intro x hx y hy
     have hy : y = p := by simpa using hy
     subst hy
     refine ⟨h1 x hx y (by simp), ?_⟩
     intro e
     subst e
     apply c
     unfold lastIs
     cases e2 : acc.getLast? with
     | none => rw [List.getLast?_eq_none_iff.1 e2] at hx; cases hx
     | some q =>
      have q1 := h3 q e2 x hx
      have q2 := h1 q (List.mem_of_getLast? e2) x (by simp)
      exact decide_eq_true (cmpP_eq.2 (hanti q1 q2))
   ·intro x hx y hy
    rcases mem_ddS.1 hx with e | e
    ·exact h1 x e y (by simp [hy])
    ·subst e; exact a.1 y hy
   ·intro y hy x hx
    rw [ddS_last] at hy
    injection hy with hy; subst hy; exact hl x hx
 exact key l [] .nil (by simp) h (by simp)
theorem dd_up {l : List Pq} (h : WS l) : dd l = setL l :=
 setL_eq ((dd_by leP_refl leP_anti h).imp fun c => leP_ne c.1 c.2) (fun x => mem_dd l)
theorem dd_down {l : List Pq} (h : l.Pairwise (fun p q => leP q p)) : dd l = (setL l).reverse := by
 have h1 := dd_by (le := fun p q => leP q p) leP_refl (fun a b => leP_anti b a) h
 have h2 : SS (dd l).reverse := List.pairwise_reverse.2 (h1.imp fun c => leP_ne c.1 fun e => c.2 e.symm)
 have h3 : (dd l).reverse = setL l := setL_eq h2 (fun x => by rw [List.mem_reverse, mem_dd])
 rw [<- h3, List.reverse_reverse]
/-- Two lists of the same points are the same set. -/
theorem setL_perm {l l' : List Pq} (h : ∀ x, x ∈ l ↔ x ∈ l') : setL l = setL l' := setL_eq (setL_ss l) (fun x => by rw [mem_setL, h])
end Go.Proofs.YtfdealobplcboaaGreat.Sx

set_option linter.unusedVariables false
set_option linter.unusedSimpArgs false
namespace Go.Proofs.YtfdealobplcboaaGreat.Sx
/-- The element of a list of points at a place. -/
def at' (l : List Pq) (i : Nat) : Pq := l.getD i Pq.zero
theorem at_set {l : List Pq} {i j : Nat} {p : Pq} (h : i < l.length) : at' (l.set i p) j = if i = j then p else at' l j := by
 unfold at'
 rw [List.getD_eq_getElem?_getD, List.getD_eq_getElem?_getD, List.getElem?_set]
 by_cases e : i = j
 ·subst e; simp [h]
 ·simp [e]
theorem at_mem {l : List Pq} {i : Nat} (h : i < l.length) : at' l i ∈ l := by
 unfold at'; rw [List.getD_eq_getElem?_getD, List.getElem?_eq_getElem h]; exact List.getElem_mem h
theorem mem_at {l : List Pq} {x : Pq} : x ∈ l ↔ ∃ i, i < l.length /\ at' l i = x := by
 constructor
 ·intro h
  obtain ⟨i, hi, e⟩ := List.mem_iff_getElem.1 h
  exact ⟨i, hi, by unfold at'; rw [List.getD_eq_getElem?_getD, List.getElem?_eq_getElem hi]; exact e⟩
 ·rintro ⟨i, hi, rfl⟩; exact at_mem hi
theorem at_map {l : List Pq} {i : Nat} (h : i < l.length) (z : Pt) : (l.map crP).getD i z = crP (at' l i) := by
 unfold at'
 rw [List.getD_eq_getElem?_getD, List.getD_eq_getElem?_getD, List.getElem?_map, List.getElem?_eq_getElem h]; rfl
theorem take_at {l : List Pq} {i : Nat} (h : i < l.length) : l.take (i + 1) = l.take i ++ [at' l i] := by
 unfold at'
 rw [List.take_add_one, List.getD_eq_getElem?_getD, List.getElem?_eq_getElem h]; rfl
/-- Two elements of a list change places. -/
def swp (l : List Pq) (i j : Nat) : List Pq := (l.set i (at' l j)).set j (at' l i)
theorem swp_len (l : List Pq) (i j : Nat) : (swp l i j).length = l.length := by unfold swp; simp
theorem swp_at {l : List Pq} {i j k : Nat} (hi : i < l.length) (hj : j < l.length) : at' (swp l i j) k = if j = k then at' l i else if i = k then at' l j else at' l k := by
 unfold swp
 rw [at_set (by simpa using hj), at_set hi]
theorem swp_mem {l : List Pq} {i j : Nat} (hi : i < l.length) (hj : j < l.length) (x : Pq) : x ∈ swp l i j ↔ x ∈ l := by
 rw [mem_at, mem_at, swp_len]
 constructor
 ·rintro ⟨k, hk, e⟩
  rw [swp_at hi hj] at e
  by_cases c1 : j = k
  ·rw [if_pos c1] at e; exact ⟨i, hi, e⟩
  ·rw [if_neg c1] at e
   by_cases c2 : i = k
   ·rw [if_pos c2] at e; exact ⟨j, hj, e⟩
   ·rw [if_neg c2] at e; exact ⟨k, hk, e⟩
 ·rintro ⟨k, hk, e⟩
  by_cases c1 : k = j
  ·refine ⟨i, hi, ?_⟩
   rw [swp_at hi hj]
   by_cases c : j = i
   ·rw [if_pos c, <- c, <- c1]; exact e
   ·rw [if_neg c, if_pos rfl, <- c1]; exact e
  ·by_cases c2 : k = i
   ·exact ⟨j, hj, by rw [swp_at hi hj, if_pos rfl, <- c2]; exact e⟩
   ·exact ⟨k, hk, by rw [swp_at hi hj, if_neg (fun c => c1 c.symm), if_neg (fun c => c2 c.symm)]; exact e⟩
/-- Insertion sort, a round of the outer loop: the first i ascend. -/
structure SortO (l0 l : List Pq) (i : Nat) : Prop where
 len : l.length = l0.length
 mem : ∀ x, x ∈ l ↔ x ∈ l0
 ord : ∀ p q, p < q -> q < i -> leP (at' l p) (at' l q)
/-- A round of the inner loop: but for the one at j, which is below those behind it, the first i + 1 ascend. -/
structure SortJ (l0 l : List Pq) (i j : Nat) : Prop where
 len : l.length = l0.length
 mem : ∀ x, x ∈ l ↔ x ∈ l0
 hj : j <= i
 hi : i < l0.length
 ord : ∀ p q, p < q -> q <= i -> p ≠ j -> q ≠ j -> leP (at' l p) (at' l q)
 abv : ∀ q, j < q -> q <= i -> leP (at' l j) (at' l q)
theorem SortO.start {l0 l : List Pq} {i : Nat} (h : SortO l0 l i) (hi : i < l0.length) : SortJ l0 l i i :=
 ⟨h.len, h.mem, Nat.le_refl _, hi, fun p q h1 h2 h3 h4 => h.ord p q h1 (by omega), fun q h1 h2 => by omega⟩
theorem SortJ.step {l0 l : List Pq} {i j : Nat} (h : SortJ l0 l i j) (h0 : 0 < j) (hc : cmpP (at' l j) (at' l (j - 1)) < 0) : SortJ l0 (swp l j (j - 1)) i (j - 1) := by
 have hjl : j < l.length := by have := h.len; have := h.hj; have := h.hi; omega
 have hjl' : j - 1 < l.length := by omega
 have hle : leP (at' l j) (at' l (j - 1)) := ltP_le hc
 refine ⟨by rw [swp_len]; exact h.len, fun x => by rw [swp_mem hjl hjl']; exact h.mem x, by have := h.hj; omega, h.hi, fun p q h1 h2 h3 h4 => ?_, fun q h1 h2 => ?_⟩
 ·rw [swp_at hjl hjl', swp_at hjl hjl', if_neg (c := j - 1 = p) (fun c => h3 c.symm), if_neg (c := j - 1 = q) (fun c => h4 c.symm)]
  by_cases c1 : j = p
  ·rw [if_pos c1, if_neg (by omega)]
   exact h.ord (j - 1) q (by omega) h2 (by omega) (by omega)
  ·rw [if_neg c1]
   by_cases c2 : j = q
   ·rw [if_pos c2]
    exact h.ord p (j - 1) (by omega) (by have := h.hj; omega) (by omega) (by omega)
   ·rw [if_neg c2]
    exact h.ord p q h1 h2 (fun e => c1 e.symm) (fun e => c2 e.symm)
 ·rw [swp_at hjl hjl', swp_at hjl hjl', if_pos rfl, if_neg (by omega)]
  by_cases c2 : j = q
  ·rw [if_pos c2]; exact hle
  ·rw [if_neg c2]; exact h.abv q (by omega) h2
theorem SortJ.stop {l0 l : List Pq} {i j : Nat} (h : SortJ l0 l i j) (hc : j = 0 \/ ¬ cmpP (at' l j) (at' l (j - 1)) < 0) : SortO l0 l (i + 1) := by
 refine ⟨h.len, h.mem, fun p q h1 h2 => ?_⟩
 by_cases c1 : p = j
 ·subst c1; exact h.abv q h1 (by omega)
 ·by_cases c2 : q = j
  ·subst c2
   have hc : ¬ cmpP (at' l q) (at' l (q - 1)) < 0 := by
    rcases hc with hc | hc
    ·omega
    ·exact hc
   have hle : leP (at' l (q - 1)) (at' l q) := Classical.byContradiction fun c => hc (ltP_iff.2 c)
   by_cases c3 : p = q - 1
   ·rw [c3]; exact hle
   ·exact leP_trans (h.ord p (q - 1) (by omega) (by have := h.hj; omega) c1 (by omega)) hle
  ·exact h.ord p q h1 (by omega) c1 c2
theorem SortO.first (l : List Pq) : SortO l l 1 := ⟨rfl, fun _ => Iff.rfl, fun p q h1 h2 => by omega⟩
theorem SortO.done {l0 l : List Pq} {i : Nat} (h : SortO l0 l i) (hi : l0.length <= i) : WS l := by
 rw [WS, List.pairwise_iff_getElem]
 intro p q hp hq hpq
 have := h.ord p q hpq (by have := h.len; omega)
 unfold at' at this
 rw [List.getD_eq_getElem?_getD, List.getD_eq_getElem?_getD, List.getElem?_eq_getElem hp, List.getElem?_eq_getElem hq] at this
 exact this
/-- Reverse, a round: what lies outside is turned. -/
structure RevI (l0 l : List Pq) (i : Nat) (j : Int) : Prop where
 len : l.length = l0.length
 sum : (i : Int) + j = (l0.length : Int) - 1
 le : (i : Int) <= j + 1
 out : ∀ k, k < l0.length -> (k < i \/ j < k) -> at' l k = at' l0 (l0.length - 1 - k)
 inn : ∀ k, i <= k -> (k : Int) <= j -> at' l k = at' l0 k
theorem at_ext {l l' : List Pq} (h : l.length = l'.length) (e : ∀ k, k < l.length -> at' l k = at' l' k) : l = l' := by
 apply List.ext_getElem h
 intro k h1 h2
 have := e k h1
 unfold at' at this
 rw [List.getD_eq_getElem?_getD, List.getD_eq_getElem?_getD, List.getElem?_eq_getElem h1, List.getElem?_eq_getElem h2] at this
 exact this
theorem at_rev {l : List Pq} {k : Nat} (h : k < l.length) : at' l.reverse k = at' l (l.length - 1 - k) := by
 unfold at'
 rw [List.getD_eq_getElem?_getD, List.getD_eq_getElem?_getD, List.getElem?_reverse h]
theorem RevI.first (l : List Pq) : RevI l l 0 ((l.length : Int) - 1) := ⟨rfl, by omega, by omega, fun k h1 h2 => by omega, fun _ _ _ => rfl⟩
theorem RevI.step {l0 l : List Pq} {i : Nat} {j : Int} (h : RevI l0 l i j) (hc : (i : Int) < j) : RevI l0 (swp l i j.toNat) (i + 1) (j - 1) := by
 have h1 := h.sum
 have h2 := h.len
 have hi : i < l.length := by omega
 have hj : j.toNat < l.length := by omega
 refine ⟨by rw [swp_len]; exact h.len, by omega, by omega, fun k hk ho => ?_, fun k h3 h4 => ?_⟩
 ·rw [swp_at hi hj]
  by_cases c1 : j.toNat = k
  ·rw [if_pos c1, h.inn i (by omega) (by omega)]; congr 1; omega
  ·rw [if_neg c1]
   by_cases c2 : i = k
   ·rw [if_pos c2, h.inn j.toNat (by omega) (by omega)]; congr 1; omega
   ·rw [if_neg c2]; exact h.out k hk (by omega)
 ·rw [swp_at hi hj, if_neg (by omega), if_neg (by omega)]; exact h.inn k (by omega) (by omega)
theorem RevI.done {l0 l : List Pq} {i : Nat} {j : Int} (h : RevI l0 l i j) (hc : ¬ (i : Int) < j) : l = l0.reverse := by
 refine at_ext (by rw [h.len, List.length_reverse]) (fun k hk => ?_)
 have h1 := h.sum
 have h2 := h.len
 have h3 := h.le
 rw [at_rev (by omega)]
 by_cases c : k < i \/ j < k
 ·exact h.out k (by omega) c
 ·rw [h.inn k (by omega) (by omega)]; congr 1; omega
/-- Compact, the first loop: no double so far. -/
structure CmpA (l : List Pq) (k : Nat) : Prop where
 pos : 1 <= k
 le : k <= l.length
 eq : dd (l.take k) = l.take k
theorem dd_take {l : List Pq} {k : Nat} (h : k < l.length) : dd (l.take (k + 1)) = ddS (dd (l.take k)) (at' l k) := by rw [take_at h, dd_snoc]
theorem dd_last_at {l : List Pq} {k : Nat} (h0 : 1 <= k) (h : k <= l.length) (p : Pq) : lastIs (dd (l.take k)) p = decide (cmpP p (at' l (k - 1)) = 0) := by
 obtain ⟨m, rfl⟩ : ∃ m, k = m + 1 := ⟨k - 1, by omega⟩
 unfold lastIs
 rw [take_at (by omega), dd_last]
 rfl
theorem CmpA.first {l : List Pq} (h : 2 <= l.length) : CmpA l 1 := by
 refine ⟨by omega, by omega, ?_⟩
 rw [take_at (by omega)]; rfl
theorem CmpA.step {l : List Pq} {k : Nat} (h : CmpA l k) (hk : k < l.length) (hc : ¬ at' l k = at' l (k - 1)) : CmpA l (k + 1) := by
 refine ⟨by omega, by omega, ?_⟩
 rw [dd_take hk, ddS, dd_last_at h.pos h.le, if_neg (by simpa [cmpP_eq] using hc), h.eq, take_at hk]
theorem CmpA.done {l : List Pq} {k : Nat} (h : CmpA l k) (hk : ¬ k < l.length) : dd l = l := by
 have := h.eq
 rwa [List.take_of_length_le (by omega)] at this
/-- The second loop: o points are looked at, k of them stay. -/
structure CmpB (l x : List Pq) (k o : Nat) : Prop where
 len : x.length = l.length
 pos : 1 <= k
 lt : k < o
 le : o <= l.length
 eq : x.take k = dd (l.take o)
 rest : ∀ t, o <= t + 1 -> at' x t = at' l t
theorem CmpA.turn {l : List Pq} {k : Nat} (h : CmpA l k) (hk : k < l.length) (hc : at' l k = at' l (k - 1)) : CmpB l l k (k + 1) := by
 refine ⟨rfl, h.pos, by omega, by omega, ?_, fun _ _ => rfl⟩
 rw [dd_take hk, ddS, dd_last_at h.pos h.le, if_pos (by simpa [cmpP_eq] using hc), h.eq]
theorem CmpB.same {l x : List Pq} {k o : Nat} (h : CmpB l x k o) (ho : o < l.length) (hc : at' x o = at' x (o - 1)) : CmpB l x k (o + 1) := by
 have h1 := h.lt
 have h2 := h.pos
 rw [h.rest o (by omega), h.rest (o - 1) (by omega)] at hc
 refine ⟨h.len, h.pos, by omega, by omega, ?_, fun t ht => h.rest t (by omega)⟩
 rw [dd_take ho, ddS, dd_last_at (by omega) h.le, if_pos (by simpa [cmpP_eq] using hc), h.eq]
theorem CmpB.more {l x : List Pq} {k o : Nat} (h : CmpB l x k o) (ho : o < l.length) (hc : ¬ at' x o = at' x (o - 1)) : CmpB l (x.set k (at' x o)) (k + 1) (o + 1) := by
 have h1 := h.lt
 have h2 := h.pos
 have h3 := h.len
 rw [h.rest o (by omega), h.rest (o - 1) (by omega)] at hc
 refine ⟨by simpa using h.len, by omega, by omega, by omega, ?_, fun t ht => ?_⟩
 ·rw [take_at (by simp; omega), at_set (by omega), if_pos rfl, List.take_set_of_le (by omega), h.eq, h.rest o (by omega), dd_take ho, ddS, dd_last_at (by omega) h.le, if_neg (by simpa [cmpP_eq] using hc)]
 ·rw [at_set (by omega), if_neg (by omega)]; exact h.rest t (by omega)
theorem CmpB.done {l x : List Pq} {k o : Nat} (h : CmpB l x k o) (ho : ¬ o < l.length) : x.take k = dd l := by
 rw [h.eq, List.take_of_length_le (by omega)]
end Go.Proofs.YtfdealobplcboaaGreat.Sx

set_option linter.unusedVariables false
set_option linter.unusedSimpArgs false
namespace Go.Proofs.YtfdealobplcboaaGreat.Sx
/-- The points of a segment that a list names, and its ends, in the segment's direction. -/
def cutsL (s : Sq) (l : List Pq) : List Pq := if 0 < cmpP s.a s.b then (setL (s.a :: s.b :: l.filter (onQ s))).reverse else setL (s.a :: s.b :: l.filter (onQ s))
def segsL (c : List Pq) : List Sq := List.zipWith Sq.mk c c.tail
def splitE (s : Sq) (n : Nat) : Int := if chkQ s ≠ 0 then 12 else if 1000 < n then 4 else 0
def splitL (s : Sq) (l : List Pq) : List Sq := if splitE s l.length = 0 then segsL (cutsL s l) else []
/-- The order along a segment. -/
def dirP (s : Sq) (p q : Pq) : Prop := if cmpP s.a s.b < 0 then ltP p q else ltP q p
theorem dirP_irr (s : Sq) (p : Pq) : ¬ dirP s p p := by unfold dirP; split <;> exact ltP_irr p
theorem dirP_trans {s : Sq} {p q r : Pq} (h : dirP s p q) (h' : dirP s q r) : dirP s p r := by
 unfold dirP at *
 split
 ·rename_i c; rw [if_pos c] at h h'; exact ltP_trans h h'
 ·rename_i c; rw [if_neg c] at h h'; exact ltP_trans h' h
theorem cuts_dir {s : Sq} (hs : chkQ s = 0) (l : List Pq) : (cutsL s l).Pairwise (dirP s) := by
 have hne : cmpP s.a s.b ≠ 0 := by
  intro h; unfold chkQ at hs; rw [if_pos h] at hs; cases hs
 unfold cutsL
 by_cases h : 0 < cmpP s.a s.b
 ·rw [if_pos h, List.pairwise_reverse]
  refine (setL_ss _).imp fun {p q} c => ?_
  unfold dirP; rw [if_neg (by omega)]; exact c
 ·rw [if_neg h]
  refine (setL_ss _).imp fun {p q} c => ?_
  unfold dirP; rw [if_pos (by omega)]; exact c
theorem mem_cuts {s : Sq} {l : List Pq} {x : Pq} : x ∈ cutsL s l ↔ x = s.a \/ x = s.b \/ (x ∈ l /\ onQ s x = true) := by
 have e : x ∈ cutsL s l ↔ x ∈ s.a :: s.b :: l.filter (onQ s) := by
  unfold cutsL
  split
  ·rw [List.mem_reverse, mem_setL]
  ·rw [mem_setL]
 rw [e]; simp [List.mem_filter]
theorem on_a (s : Sq) : onQ s s.a = true := by rw [on_iff]; exact ⟨0, by decide, by decide, by simp [Pq.at, Pq.add, Pq.scale, Pq.sub, Rat.mul_zero, Rat.add_zero]⟩
theorem on_b (s : Sq) : onQ s s.b = true := by
 rw [on_iff]
 refine ⟨1, by decide, by decide, Pq.ext' ?_ ?_⟩ <;> simp only [Pq.at, Pq.add, Pq.scale, Pq.sub] <;> grind
theorem on_dir {s : Sq} (hs : chkQ s = 0) {p : Pq} (h : onQ s p = true) : ¬ dirP s p s.a /\ ¬ dirP s s.b p := by
 have hne : cmpP s.a s.b ≠ 0 := by
  intro h; unfold chkQ at hs; rw [if_pos h] at hs; cases hs
 rw [on_iff, on_lex] at h
 obtain ⟨_, h1, h2⟩ := h
 unfold dirP
 unfold ordS at h1 h2
 by_cases c : 0 < cmpP s.a s.b
 ·rw [if_pos c] at h1 h2
  rw [if_neg (by omega), if_neg (by omega)]
  exact ⟨fun e => ltP_iff.1 e h2, fun e => ltP_iff.1 e h1⟩
 ·rw [if_neg c] at h1 h2
  rw [if_pos (by omega), if_pos (by omega)]
  exact ⟨fun e => ltP_iff.1 e h1, fun e => ltP_iff.1 e h2⟩
theorem cut_on {s : Sq} {l : List Pq} {x : Pq} (h : x ∈ cutsL s l) : onQ s x = true := by
 rcases mem_cuts.1 h with rfl | rfl | h
 ·exact on_a s
 ·exact on_b s
 ·exact h.2
theorem cuts_pos {s : Sq} (hs : chkQ s = 0) (l : List Pq) : 2 <= (cutsL s l).length := by
 have hne : s.a ≠ s.b := by
  intro h; unfold chkQ at hs; rw [if_pos (cmpP_eq.2 h)] at hs; cases hs
 have h1 : s.a ∈ cutsL s l := mem_cuts.2 (.inl rfl)
 have h2 : s.b ∈ cutsL s l := mem_cuts.2 (.inr (.inl rfl))
 match h : cutsL s l with
 | [] => rw [h] at h1; cases h1
 | [x] => rw [h] at h1 h2; simp at h1 h2; exact absurd (h1.trans h2.symm) hne
 | x :: y :: r => simp
theorem pw_at {R : Pq -> Pq -> Prop} {l : List Pq} (h : l.Pairwise R) {i j : Nat} (hij : i < j) (hj : j < l.length) : R (at' l i) (at' l j) := by
 have := (List.pairwise_iff_getElem.1 h) i j (by omega) hj hij
 unfold at'
 rw [List.getD_eq_getElem?_getD, List.getD_eq_getElem?_getD, List.getElem?_eq_getElem (by omega), List.getElem?_eq_getElem hj]
 exact this
theorem cuts_first {s : Sq} (hs : chkQ s = 0) (l : List Pq) : at' (cutsL s l) 0 = s.a := by
 have hp := cuts_pos hs l
 have hd := cuts_dir hs l
 obtain ⟨i, hi, e⟩ := mem_at.1 (mem_cuts.2 (.inl rfl) : s.a ∈ cutsL s l)
 by_cases h : i = 0
 ·rw [<- h]; exact e
 ·have h1 := pw_at hd (show 0 < i by omega) hi
  rw [e] at h1
  exact absurd h1 (on_dir hs (cut_on (at_mem (by omega)))).1
theorem cuts_last {s : Sq} (hs : chkQ s = 0) (l : List Pq) {k : Nat} (hk : k < (cutsL s l).length) : at' (cutsL s l) k = s.b ↔ k + 1 = (cutsL s l).length := by
 have hd := cuts_dir hs l
 obtain ⟨i, hi, e⟩ := mem_at.1 (mem_cuts.2 (.inr (.inl rfl)) : s.b ∈ cutsL s l)
 have hi2 : i + 1 = (cutsL s l).length := by
  apply Classical.byContradiction
  intro h
  have h1 := pw_at hd (show i < i + 1 by omega) (by omega)
  rw [e] at h1
  exact (on_dir hs (cut_on (at_mem (by omega)))).2 h1
 constructor
 ·intro h
  rcases Nat.lt_trichotomy k i with c | c | c
  ·have h1 := pw_at hd c hi
   rw [h, e] at h1
   exact absurd h1 (dirP_irr _ _)
  ·omega
  ·omega
 ·intro h
  have : k = i := by omega
  rw [this, e]
/-- The reference: one of the points, if it lies behind at and before what is there. -/
def nxtS (s : Sq) (at0 nx p : Pq) : Pq := if onQ s p = true /\ (decide (cmpP at0 p < 0) = decide (cmpP s.a s.b < 0)) /\ cmpP at0 p ≠ 0 /\ (decide (cmpP p nx < 0) = decide (cmpP s.a s.b < 0)) then p else nx
/-- What the inner loop holds. -/
structure NX (s : Sq) (at0 : Pq) (l : List Pq) (nx : Pq) : Prop where
 mem : nx = s.b \/ (nx ∈ l /\ onQ s nx = true)
 beh : dirP s at0 nx
 min : ∀ p ∈ l, onQ s p = true -> dirP s at0 p -> ¬ dirP s p nx
theorem dir_dec {s : Sq} {p q : Pq} : (decide (cmpP p q < 0) = decide (cmpP s.a s.b < 0)) /\ cmpP p q ≠ 0 ↔ dirP s p q := by
 unfold dirP
 by_cases h : cmpP s.a s.b < 0
 ·rw [if_pos h, decide_eq_true h, decide_eq_true_iff]
  exact ⟨fun c => c.1, fun c => ⟨c, fun e => by unfold ltP at c; omega⟩⟩
 ·rw [if_neg h, decide_eq_false h, decide_eq_false_iff_not]
  constructor
  ·rintro ⟨h1, h2⟩
   exact leP_ne (leP_cmp'.1 (by omega)) fun e => h2 (cmpP_eq.2 e.symm)
  ·intro c
   refine ⟨fun e => absurd (ltP_trans c e) (ltP_irr _), fun e => ?_⟩
   rw [cmpP_eq.1 e] at c; exact ltP_irr _ c
theorem NX.first {s : Sq} {at0 : Pq} (h : dirP s at0 s.b) : NX s at0 [] s.b := ⟨.inl rfl, h, fun p hp => by cases hp⟩
theorem NX.step {s : Sq} {at0 : Pq} {l : List Pq} {nx : Pq} (h : NX s at0 l nx) (p : Pq) : NX s at0 (l ++ [p]) (nxtS s at0 nx p) := by
 unfold nxtS
 split
 ·rename_i c
  obtain ⟨c1, c2, c3, c4⟩ := c
  have hb := dir_dec.1 ⟨c2, c3⟩
  refine ⟨.inr ⟨by simp, c1⟩, hb, fun q hq ho hd => ?_⟩
  rcases List.mem_append.1 hq with hq | hq
  ·by_cases e : cmpP p nx = 0
   ·rw [cmpP_eq.1 e]; exact h.min q hq ho hd
   ·intro hqp
    exact h.min q hq ho hd (dirP_trans hqp (dir_dec.1 ⟨c4, e⟩))
  ·have : q = p := by simpa using hq
   rw [this]; exact dirP_irr _ _
 ·rename_i c
  refine ⟨h.mem.elim .inl fun m => .inr ⟨List.mem_append_left _ m.1, m.2⟩, h.beh, fun q hq ho hd => ?_⟩
  rcases List.mem_append.1 hq with hq | hq
  ·exact h.min q hq ho hd
  ·have e : q = p := by simpa using hq
   subst e
   intro hn
   have h1 := dir_dec.2 hd
   have h2 := dir_dec.2 hn
   exact c ⟨ho, h1.1, h1.2, h2.1⟩
/-- The next cut. -/
theorem NX.done {s : Sq} (hs : chkQ s = 0) {l : List Pq} {nx : Pq} {k : Nat} (hk : k + 1 < (cutsL s l).length) (h : NX s (at' (cutsL s l) k) l nx) : nx = at' (cutsL s l) (k + 1) := by
 have hd := cuts_dir hs l
 have hm : nx ∈ cutsL s l := mem_cuts.2 (h.mem.elim (fun e => .inr (.inl e)) fun m => .inr (.inr m))
 obtain ⟨i, hi, e⟩ := mem_at.1 hm
 rcases Nat.lt_trichotomy i (k + 1) with c | c | c
 ·have hb := h.beh
  rw [<- e] at hb
  rcases Nat.lt_or_ge i k with c2 | c2
  ·exact absurd (dirP_trans hb (pw_at hd c2 (by omega))) (dirP_irr _ _)
  ·have : i = k := by omega
   rw [this] at hb
   exact absurd hb (dirP_irr _ _)
 ·rw [<- e, c]
 ·have h1 := pw_at hd c hi
  have h2 := pw_at hd (show k < k + 1 by omega) hk
  have hx : at' (cutsL s l) (k + 1) ∈ cutsL s l := at_mem hk
  rw [e] at h1
  rcases mem_cuts.1 hx with hx | hx | hx
  ·rw [hx] at h2
   exact absurd h2 (on_dir hs (cut_on (at_mem (by omega)))).1
  ·rw [hx] at h1
   exact absurd h1 (on_dir hs (cut_on hm)).2
  ·exact absurd h1 (h.min _ hx.1 hx.2 h2)
theorem segs_len (c : List Pq) : (segsL c).length = c.length - 1 := by unfold segsL; rw [List.length_zipWith, List.length_tail]; omega
theorem segs_get {c : List Pq} {k : Nat} (h : k + 1 < c.length) : (segsL c)[k]? = some ⟨at' c k, at' c (k + 1)⟩ := by
 unfold segsL at'
 rw [List.getElem?_zipWith, List.getElem?_tail, List.getD_eq_getElem?_getD, List.getD_eq_getElem?_getD, List.getElem?_eq_getElem (by omega : k < c.length), List.getElem?_eq_getElem h]
 rfl
theorem segs_take {c : List Pq} {k : Nat} (h : k + 1 < c.length) : segsL (c.take (k + 2)) = segsL (c.take (k + 1)) ++ [⟨at' c k, at' c (k + 1)⟩] := by
 apply List.ext_getElem?
 intro i
 rcases Nat.lt_trichotomy i k with hi | hi | hi
 ·rw [segs_get (by rw [List.length_take]; omega), List.getElem?_append_left (by rw [segs_len, List.length_take]; omega), segs_get (by rw [List.length_take]; omega)]
  unfold at'
  simp only [List.getD_eq_getElem?_getD, List.getElem?_take]
  rw [if_pos (by omega), if_pos (by omega), if_pos (by omega), if_pos (by omega)]
 ·subst hi
  rw [segs_get (by rw [List.length_take]; omega), List.getElem?_append_right (by rw [segs_len, List.length_take]; omega), segs_len, List.length_take]
  have e : i - (min (i + 1) c.length - 1) = 0 := by omega
  rw [e]
  unfold at'
  simp only [List.getD_eq_getElem?_getD, List.getElem?_take]
  rw [if_pos (by omega), if_pos (by omega)]
  rfl
 ·rw [List.getElem?_eq_none (by rw [segs_len, List.length_take]; omega), List.getElem?_eq_none (by rw [List.length_append, segs_len, List.length_take, List.length_singleton]; omega)]
theorem segs_one {c : List Pq} (h : 1 <= c.length) : segsL (c.take 1) = [] := by
 match c, h with
 | x :: r, _ => rfl
theorem segs_all {c : List Pq} {k : Nat} (h : c.length <= k) : segsL (c.take k) = segsL c := by rw [List.take_of_length_le h]
theorem ins_len (p : Pq) : ∀ m : List Pq, (insU p m).length <= m.length + 1
 | [] => Nat.le_refl _
 | x :: m => by
  unfold insU
  split
  ·simp
  ·split
   ·simp
   ·have := ins_len p m
    simp only [List.length_cons]; omega
theorem set_len : ∀ l : List Pq, (setL l).length <= l.length
 | [] => Nat.le_refl _
 | p :: l => by
  show (insU p (setL l)).length <= _
  have := ins_len p (setL l)
  have := set_len l
  simp only [List.length_cons]; omega
theorem cuts_len (s : Sq) (l : List Pq) : (cutsL s l).length <= l.length + 2 := by
 have h7 := List.length_filter_le (onQ s) l
 have h5 := set_len (s.a :: s.b :: l.filter (onQ s))
 have h8 : (cutsL s l).length = (setL (s.a :: s.b :: l.filter (onQ s))).length := by
  rw [cutsL]; split
  ·rw [List.length_reverse]
  ·rfl
 simp only [List.length_cons] at h5
 omega
theorem split_len (s : Sq) (l : List Pq) (h : l.length <= 2000) : (splitL s l).length <= 4096 := by
 unfold splitL
 split
 ·rw [segs_len]; have := cuts_len s l; omega
 ·exact Nat.zero_le _
end Go.Proofs.YtfdealobplcboaaGreat.Sx

set_option linter.unusedVariables false
set_option linter.unusedSimpArgs false
namespace Go.Proofs.YtfdealobplcboaaGreat.Sx
abbrev z0 : Pt := ⟨⟨false, ⟨#[]⟩, ⟨#[]⟩⟩, ⟨false, ⟨#[]⟩, ⟨#[]⟩⟩⟩
/-- The last loop: the pieces so far. -/
structure FinI (c : List Pq) (i L : Int) (out : List Sg) : Prop where
 h0 : 0 <= i
 h1 : i + 1 <= c.length
 eq : out = (segsL (c.take (i.toNat + 1))).map crS
 len : L = out.length
theorem FinI.first {c : List Pq} {i L : Int} {out : List Sg} (hc : 1 <= c.length) (hi : i = 0) (hL : L = 0) (ho : out = []) : FinI c i L out := by
 subst hi hL ho
 refine ⟨by omega, by omega, ?_, rfl⟩
 show _ = (segsL (c.take 1)).map crS
 rw [segs_one hc]; rfl
structure FinF (c : List Pq) (zs : List Pt) (K i L : Int) (out : List Sg) (j : Int) (w1 w2 : Pt) (L' : Int) (out' : List Sg) : Prop where
 in1 : 0 <= i /\ i < K
 add : Env.std.ib .add .i64 i 1 = j
 in2 : 0 <= j /\ j < K
 g1 : Env.std.get Pt zs i z0 = w1
 g2 : Env.std.get Pt zs j z0 = w2
 app : Env.std.app Sg (Env.std.tk Sg out L) [⟨w1, w2⟩] = out'
 fit : Env.std.fits (Env.std.ad L (Env.std.len Sg [⟨w1, w2⟩])) 160
 len : Env.std.ad L (Env.std.len Sg [⟨w1, w2⟩]) = L'
 inv : FinI c j L' out'
 mu : ∀ n : Int, i < n -> (n - j).toNat < (n - i).toNat
theorem finF_ex {c : List Pq} {zs : List Pt} (hz : ∀ i, i < c.length -> zs.getD i z0 = crP (at' c i)) {K : Int} (hK : K = c.length) (hl : c.length <= 4096) {i L : Int} {out : List Sg} (h : FinI c i L out) (hi : i + 1 < K) : ∃ j w1 w2 L' out', FinF c zs K i L out j w1 w2 L' out' := by
 have h0 := h.h0
 have e : (i + 1).toNat = i.toNat + 1 := by omega
 have hlen := h.len
 have hol : out.length <= 4096 := by rw [h.eq, List.length_map, segs_len, List.length_take]; omega
 refine ⟨i + 1, crP (at' c i.toNat), crP (at' c (i.toNat + 1)), L + 1, out ++ [⟨crP (at' c i.toNat), crP (at' c (i.toNat + 1))⟩], ⟨⟨h0, by omega⟩, by rw [s_add, w64 (by omega) (by omega)], ⟨by omega, hi⟩, ?_, ?_, ?_, ?_, rfl, ⟨by omega, by omega, ?_, by rw [hlen]; simp⟩, fun n hn => by omega⟩⟩
 ·show zs.getD i.toNat _ = _
  exact hz _ (by omega)
 ·show zs.getD (i + 1).toNat _ = _
  rw [e]; exact hz _ (by omega)
 ·rw [s_app, s_tk, List.take_of_length_le (by omega)]
 ·rw [s_fits]
  show 0 <= L + 1 /\ L + 1 <= _ /\ (L + 1) * 160 <= _
  omega
 ·rw [e, segs_take (by omega), List.map_append, h.eq]; rfl
theorem FinI.done {S : Sq} {l : List Pq} {c : List Pq} {rs : List Sg} (hc : c = cutsL S l) (hr : rs = (segsL (cutsL S l)).map crS) {i L : Int} {out : List Sg} (h : FinI c i L out) (hi : ¬ i + 1 < c.length) : out = rs /\ L = (rs.length : Int) := by
 have e : out = rs := by rw [h.eq, hr, hc, segs_all (by have := h.h1; rw [<- hc]; omega)]
 exact ⟨e, by rw [h.len, e]⟩
/-- Reverse. -/
structure RevP (l2 : List Pq) (i j : Int) (ys : List Pt) (l : List Pq) : Prop where
 h0 : 0 <= i
 eq : ys = l.map crP
 rv : RevI l2 l i.toNat j
structure RevF (l2 : List Pq) (L i j : Int) (ys : List Pt) (w1 w2 : Pt) (i' j' : Int) (ys' : List Pt) (l' : List Pq) : Prop where
 in1 : 0 <= i /\ i < L
 in2 : 0 <= j /\ j < L
 g1 : Env.std.get Pt ys j z0 = w1
 g2 : Env.std.get Pt ys i z0 = w2
 row : Env.std.set Pt (Env.std.set Pt ys i w1) j w2 = ys'
 add : Env.std.ib .add .i64 i 1 = i'
 sub : Env.std.ib .sub .i64 j 1 = j'
 inv : RevP l2 i' j' ys' l'
 mu : (j' - i').toNat < (j - i).toNat
theorem revF_ex {l2 : List Pq} {L : Int} (hL : L = l2.length) (hl : l2.length <= 4096) {i j : Int} {ys : List Pt} {l : List Pq} (h : RevP l2 i j ys l) (hij : i < j) : ∃ w1 w2 i' j' ys' l', RevF l2 L i j ys w1 w2 i' j' ys' l' := by
 have h0 := h.h0
 have h1 := h.rv.sum
 have h2 := h.rv.len
 have e : (i + 1).toNat = i.toNat + 1 := by omega
 have b1 : i.toNat < l.length := by omega
 have b2 : j.toNat < l.length := by omega
 refine ⟨crP (at' l j.toNat), crP (at' l i.toNat), i + 1, j - 1, (swp l i.toNat j.toNat).map crP, swp l i.toNat j.toNat, ⟨⟨h0, by omega⟩, ⟨by omega, by omega⟩, ?_, ?_, ?_, by rw [s_add, w64 (by omega) (by omega)], by rw [s_sub, w64 (by omega) (by omega)], ⟨by omega, rfl, ?_⟩, by omega⟩⟩
 ·show ys.getD j.toNat _ = _
  rw [h.eq, at_map b2]
 ·show ys.getD i.toNat _ = _
  rw [h.eq, at_map b1]
 ·show (ys.set i.toNat _).set j.toNat _ = _
  rw [h.eq]; unfold swp; rw [List.map_set, List.map_set]
 ·rw [e]
  exact h.rv.step (by omega)
/-- Compact, the first loop. -/
structure CmpF (l : List Pq) (ys : List Pt) (L k : Int) (w1 w2 : Pt) (k1 k' : Int) : Prop where
 in1 : 0 <= k /\ k < L
 sub : Env.std.ib .sub .i64 k 1 = k1
 in2 : 0 <= k1 /\ k1 < L
 g1 : Env.std.get Pt ys k z0 = w1
 g2 : Env.std.get Pt ys k1 z0 = w2
 add : Env.std.ib .add .i64 k 1 = k'
 yes : w1 = w2 -> CmpB l l k.toNat (k.toNat + 1)
 no : ¬ w1 = w2 -> 1 <= k' /\ CmpA l k'.toNat
 mu : (L - k').toNat < (L - k).toNat
theorem cmpF_ex {l : List Pq} {ys : List Pt} (hy : ys = l.map crP) {L : Int} (hL : L = l.length) (hl : l.length <= 4096) {k : Int} (h0 : 1 <= k) (h : CmpA l k.toNat) (hk : k < L) : ∃ w1 w2 k1 k', CmpF l ys L k w1 w2 k1 k' := by
 have e : (k + 1).toNat = k.toNat + 1 := by omega
 have e2 : (k - 1).toNat = k.toNat - 1 := by omega
 have b1 : k.toNat < l.length := by omega
 refine ⟨crP (at' l k.toNat), crP (at' l (k.toNat - 1)), k - 1, k + 1, ⟨⟨by omega, hk⟩, by rw [s_sub, w64 (by omega) (by omega)], ⟨by omega, by omega⟩, ?_, ?_, by rw [s_add, w64 (by omega) (by omega)], fun hw => h.turn b1 (crP_iff.1 hw), fun hw => ⟨by omega, ?_⟩, by omega⟩⟩
 ·show ys.getD k.toNat _ = _
  rw [hy, at_map b1]
 ·show ys.getD (k - 1).toNat _ = _
  rw [e2, hy, at_map (by omega)]
 ·rw [e]; exact h.step b1 (fun hc => hw (by rw [hc]))
/-- Compact, the second loop: o counts from the first double on. -/
structure CmpP (l : List Pq) (q k o : Int) (ys : List Pt) (x : List Pq) : Prop where
 h0 : 1 <= k
 h1 : 1 <= o
 eq : ys = x.map crP
 b : CmpB l x k.toNat (q + o).toNat
structure CmpG (l : List Pq) (q L M k o : Int) (ys : List Pt) (w1 w2 : Pt) (o1 a0 a1 k' o' : Int) (ys' : List Pt) (x x' : List Pq) : Prop where
 in1 : 0 <= o /\ o < M
 sub : Env.std.ib .sub .i64 o 1 = o1
 in2 : 0 <= o1 /\ o1 < M
 ad0 : Env.std.ad q o = a0
 ad1 : Env.std.ad q o1 = a1
 g1 : Env.std.get Pt ys a0 z0 = w1
 g2 : Env.std.get Pt ys a1 z0 = w2
 in3 : 0 <= k /\ k < L
 row : Env.std.set Pt ys k w1 = ys'
 addk : Env.std.ib .add .i64 k 1 = k'
 addo : Env.std.ib .add .i64 o 1 = o'
 yes : w1 = w2 -> CmpP l q k o' ys x
 no : ¬ w1 = w2 -> CmpP l q k' o' ys' x'
 mu : (M - o').toNat < (M - o).toNat
theorem cmpG_ex {l : List Pq} {q L M : Int} (hq : 0 <= q) (hL : L = l.length) (hM : M = L - q) (hl : l.length <= 4096) {k o : Int} {ys : List Pt} {x : List Pq} (h : CmpP l q k o ys x) (ho : o < M) : ∃ w1 w2 o1 a0 a1 k' o' ys' x', CmpG l q L M k o ys w1 w2 o1 a0 a1 k' o' ys' x x' := by
 have h0 := h.h0
 have h1 := h.h1
 have hb := h.b
 have hlt := hb.lt
 have hle := hb.le
 have hlen := hb.len
 have e1 : (q + (o + 1)).toNat = (q + o).toNat + 1 := by omega
 have e2 : (q + (o - 1)).toNat = (q + o).toNat - 1 := by omega
 have e3 : (k + 1).toNat = k.toNat + 1 := by omega
 have b1 : (q + o).toNat < l.length := by omega
 refine ⟨crP (at' x (q + o).toNat), crP (at' x ((q + o).toNat - 1)), o - 1, q + o, q + (o - 1), k + 1, o + 1, (x.set k.toNat (at' x (q + o).toNat)).map crP, x.set k.toNat (at' x (q + o).toNat), ⟨⟨by omega, ho⟩, by rw [s_sub, w64 (by omega) (by omega)], ⟨by omega, by omega⟩, rfl, rfl, ?_, ?_, ⟨by omega, by omega⟩, ?_, by rw [s_add, w64 (by omega) (by omega)], by rw [s_add, w64 (by omega) (by omega)], fun hw => ⟨h0, by omega, h.eq, ?_⟩, fun hw => ⟨by omega, by omega, rfl, ?_⟩, by omega⟩⟩
 ·show ys.getD (q + o).toNat _ = _
  rw [h.eq, at_map (by omega)]
 ·show ys.getD (q + (o - 1)).toNat _ = _
  rw [e2, h.eq, at_map (by omega)]
 ·show ys.set k.toNat _ = _
  rw [h.eq, List.map_set]
 ·rw [e1]; exact hb.same b1 (crP_iff.1 hw)
 ·rw [e1, e3]; exact hb.more b1 (fun hc => hw (by rw [hc]))
theorem cmp_end {l x : List Pq} {k o : Nat} (h : CmpB l x k o) (ho : ¬ o < l.length) {c : List Pq} (hc : dd l = c) : k = c.length := by
 have h1 := h.done ho
 have h2 := h.lt
 have h3 := h.le
 have h4 := h.len
 rw [<- hc, <- h1, List.length_take]; omega
theorem cmp_get {l x : List Pq} {k o : Nat} (h : CmpB l x k o) (ho : ¬ o < l.length) {c : List Pq} (hc : dd l = c) {r : List Pt} : ∀ i, i < c.length -> ((x.map crP).take k ++ r).getD i z0 = crP (at' c i) := by
 intro i hi
 have hk := cmp_end h ho hc
 have h1 := h.done ho
 have h2 := h.lt
 have h3 := h.le
 have h4 := h.len
 rw [List.getD_eq_getElem?_getD, List.getElem?_append_left (by rw [List.length_take, List.length_map]; omega), <- List.map_take, h1, hc, List.getElem?_map]
 unfold at'
 rw [List.getD_eq_getElem?_getD, List.getElem?_eq_getElem hi]; rfl
theorem map_get {c : List Pq} : ∀ i, i < c.length -> (c.map crP).getD i z0 = crP (at' c i) := fun i hi => at_map hi _
end Go.Proofs.YtfdealobplcboaaGreat.Sx

set_option linter.unusedVariables false
set_option linter.unusedSimpArgs false
namespace Go.Proofs.YtfdealobplcboaaGreat.Sx
section
variable {P : Program}
def St.lit (s : St) (k b l : Nat) (ty : TypeId) (cd : Cd) (ys : List cd.α) : St := ⟨s.t.set k (.s s.h.length l), s.h.set b .dead ++ [.row true ty cd ys]⟩
theorem LoopTo.lit {m : Nat} {c : Unit -> Code} {B : Unit -> (X -> St -> Prop) -> St -> Prop} {K : X -> St -> Prop} {s : St} (k b l : Nat) {cs : List AV} {ty : TypeId} (cd : Cd) (ys : List cd.α) (hc : cd.Ok) (hl : ys.length = l) (hm : l <= 1000) (hk : s.t[k]? = some (.q b 0 l l)) (hb : s.h[b]? = some (.cells cs ty)) (hp : plain cs = some (ys.flatMap cd.enc))
  (h : LoopTo P m c B K (s.lit k b l ty cd ys)) : LoopTo P m c B K s := by
 refine ⟨fun ro hB w0 β0 β M a w ht hw hx => ?_⟩
 have hle := hw.below.size
 obtain ⟨us, hg, hvs⟩ := hw.blk b _ hb
 have hus := plain_rel hp hvs
 have hblt : b < s.h.length := (List.getElem?_eq_some_iff.1 hb).1
 have hocc : (Blk.cells cs ty).occ (β b) = some (β b).g := rfl
 have hkill := hw.kill b
 have hadd := hkill.add (b := .row true ty cd ys) (l := ⟨0, some ⟨(β b).g, 0, none⟩, l, cd.sz, l⟩) ⟨hc, rfl, hl.symm, by simp only; rw [flat_length hc, hl], .inr ⟨(β b).g, l, us, rfl, Nat.zero_le _, hg, Nat.le_refl _, by simp only [maxLen]; omega, by rw [<- Array.length_toList, hus, flat_length hc, hl], by rw [hus, List.take_of_length_le (by rw [flat_length hc, hl]; exact Nat.le_refl _)]⟩⟩ trivial (
  by
  intro g hg'
  simp only [Blk.occ, Option.map_some] at hg'; injection hg' with hg'; subst hg'
  refine ⟨hw.mine b _ _ hb hocc, fun j d hj ho => ?_, fun j e c' xs hj hx d hd => ?_⟩
  ·rw [List.getElem?_set] at hj
   split at hj
   ·(try split at hj)
    ·injection hj with hj; subst hj; simp [Blk.occ] at ho
    all_goals (first | cases hj | skip)
   ·rename_i hne; exact hne (hw.inj b j _ d _ hb hj hocc ho)
  ·rw [List.getElem?_set] at hj
   split at hj
   ·(try split at hj)
    ·injection hj with hj; cases hj
    all_goals (first | cases hj | skip)
   ·exact hw.ro j b e c' xs _ _ hj hx hb hocc d hd) (fun _ _ _ e => by cases e)
 have hls : (s.h.set b .dead).length = s.h.length := by simp
 rw [hls] at hadd
 refine h.out ro hB w0 β0 (grow β s.h.length ⟨0, some ⟨(β b).g, 0, none⟩, l, cd.sz, l⟩) M a w ?_ hadd ?_
 ·have e1 : (s.lit k b l ty cd ys).h.length = s.h.length + 1 := by simp [St.lit]
  rw [e1]
  have ht' := ht.grow ⟨0, some ⟨(β b).g, 0, none⟩, l, cd.sz, l⟩
  obtain ⟨u, hu, hr⟩ := AVRs_get ht'.rel hk
  simp only [AVR] at hr
  rw [grow_lt hblt] at hr
  subst hr
  refine ⟨?_, ht'.defers, oks_set ht'.ok (by simp only [AV.ok]; omega) k⟩
  have h2 := ht'.rel.set (x := .s s.h.length l) (u := .slice (some ⟨(β b).g, 0, none⟩) l l) (avr_s (by omega) (by rw [grow_at]; simp) (by rw [grow_at]; simp)) k
  have e2 : a.tmps.toList.set k (.slice (some ⟨(β b).g, 0, none⟩) l l) = a.tmps.toList := by
   apply List.ext_getElem?
   intro j
   rw [List.getElem?_set]
   split
   ·rename_i e; subst e
    rw [hu]
    split
    ·rfl
    ·rename_i hlt; exact absurd (List.getElem?_eq_some_iff.1 hu).1 hlt
   ·rfl
  rw [e2] at h2; exact h2
 ·exact ⟨by have := hx.1; simp [St.lit]; omega, fun i hi => by rw [grow_lt (Nat.lt_of_lt_of_le hi hx.1), hx.2 i hi]⟩
end
end Go.Proofs.YtfdealobplcboaaGreat.Sx

set_option linter.unusedVariables false
set_option linter.unusedSimpArgs false
set_option maxRecDepth 100000
set_option maxHeartbeats 8000000
namespace Go.Proofs.YtfdealobplcboaaGreat.Sx
abbrev tiW : TI := { kind := 5, sz := 1, zero := [.int .u64 0], flds := [], elem := 0, ik := .u64, eq := false, len := 0, bytes := 8, cd := some (cInt .u64) }
theorem tyW : TyOk Tryz.prog 167 tiW := ⟨by kernel_rfl, by kernel_rfl, (fun _ => ⟨_, rfl, rfl⟩), rfl, (fun _ h => by injection h with h; subst h; exact ⟨cInt_ok _, rfl, rfl⟩), (fun h => by cases h)⟩
def ttW : Tab := (167, tiW) :: tt
theorem ttWOk : TabOk Tryz.prog ttW := .cons tyW ttOk
theorem len64_con (x : Int) (n : Nat) (h0 : 0 <= x) (hx : x < 256) (h : IsLen n x.toNat) : Con Tryz.prog 234 [.v (.int .u64 x)] (.v (.int .i64 n)) := by
 refine Con.of ttWOk mixed Tryz.func234 {} .nil 0 (by kernel_rfl) (fun P' E hP hE => ?_)
 cbv
 refine fork.mk ?_ ?_
 ·intro h1
  have h1 : 4294967296 <= x := by
   subst hE
   have h : Env.std.ic .geq x 4294967296 = true := h1
   simpa using h
  omega
 ·intro h1
  cbv
  refine fork.mk ?_ ?_
  ·intro h1
   have h1 : 65536 <= x := by
    subst hE
    have h : Env.std.ic .geq x 65536 = true := h1
    simpa using h
   omega
  ·intro h1
   cbv
   refine fork.mk ?_ ?_
   ·intro h1
    have h1 : 256 <= x := by
     subst hE
     have h : Env.std.ic .geq x 256 = true := h1
     simpa using h
    omega
   ·intro h1
    have q := ends (Y := x) (y := x.toNat) (by omega) (by omega) (by decide : 0 <= 24) (fun m hm => by rw [Nat.zero_add]; exact hm) h
    cbv
    refine ⟨by subst hE; exact q.1, ?_⟩
    cbv
    subst hE
    exact congrArg (Value.int .i64) q.2
theorem bitsLen_con (x : Int) (n : Nat) (h0 : 0 <= x) (hx : x < 256) (h : IsLen n x.toNat) : Con Tryz.prog 200 [.v (.int .u64 x)] (.v (.int .i64 n)) := by
 have hc := len64_con x n h0 hx h
 obtain ⟨m, hm⟩ : ∃ m : Int, m = n := ⟨_, rfl⟩
 rw [<- hm] at hc ⊢
 refine Con.of ttWOk mixed Tryz.func200 {} .nil 0 (by kernel_rfl) (fun P' E hP hE => ?_)
 cbv
 refine CallTo.con hP hE hc ⟨rfl, trivial⟩ ?_
 cbv
theorem isLen_ex {x : Int} (h0 : 0 <= x) (hx : x < 256) : ∃ n : Nat, IsLen n x.toNat := ⟨_, lenTab_at x.toNat (by omega)⟩
end Go.Proofs.YtfdealobplcboaaGreat.Sx
