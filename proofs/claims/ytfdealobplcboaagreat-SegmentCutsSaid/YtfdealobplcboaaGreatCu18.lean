/- Part 18 of what the statement needs: an executor of Go texts, arithmetic, and contracts of the functions that are called. -/
import Derived.Test.YtfdealobplcboaaGreatCu16
import Derived.Test.YtfdealobplcboaaGreatCu17
set_option linter.unusedVariables false
set_option linter.unusedSimpArgs false
set_option maxRecDepth 100000
set_option maxHeartbeats 16000000
namespace Go.Proofs.YtfdealobplcboaaGreat.Sx
theorem fork.yes {b : Bool} {x y : Unit -> Prop} (h : b = true) (hx : x ()) : fork b x y := ⟨fun _ => hx, fun e => by rw [h] at e; cases e⟩
theorem fork.no {b : Bool} {x y : Unit -> Prop} (h : b = false) (hy : y ()) : fork b x y := ⟨fun e => (by rw [h] at e; cases e), fun _ => hy⟩
def I2 (a b : Int) : Pq := ⟨(a : Rat), (b : Rat)⟩
def S0 : Sq := ⟨I2 0 0, I2 4 2⟩
def T0 : Sq := ⟨I2 0 2, I2 4 0⟩
def B0 : Bq := ⟨I2 1 0, I2 5 1⟩
theorem meet0S : meetS S0 T0 = ⟨I2 2 1, I2 2 1⟩ := by kernel_rfl
theorem meet0B : meetB S0 T0 = true := by kernel_rfl
theorem meet0E : meetE S0 T0 = 0 := by kernel_rfl
theorem cross0 : crossQ S0 T0 = true := by kernel_rfl
theorem height0 : heightQ S0 ((3 : Int) : Rat) = 3 / 2 := by kernel_rfl
theorem height0E : heightE S0 ((3 : Int) : Rat) = 0 := by kernel_rfl
theorem clip0 : clipR S0 B0 = some ⟨⟨((1 : Int) : Rat), ((1 : Int) : Rat) / ((2 : Int) : Rat)⟩, I2 2 1⟩ := by kernel_rfl
theorem clip0E : clipE S0 B0 = 0 := by kernel_rfl
theorem near0 : nearQ S0 (I2 0 5) = I2 2 1 := by kernel_rfl
theorem chk0 : chkQ S0 = 0 := by kernel_rfl
theorem dv2 : dvE ((2 : Int) : Rat) = 0 := by kernel_rfl
abbrev in64 (n : Int) : Prop := -9223372036854775808 <= n /\ n < 9223372036854775808
theorem I2.bd {a b : Int} (ha : in64 a) (hb : in64 b) : BdP 8 (I2 a b) := ⟨bd_int ha, bd_int hb⟩
theorem seg_q (a b c d : Int) (ha : in64 a) (hb : in64 b) (hc : in64 c) (hd : in64 d) : Con Tryz.prog 75 [.v (.int .i64 a), .v (.int .i64 b), .v (.int .i64 c), .v (.int .i64 d)] (.v (crS ⟨I2 a b, I2 c d⟩).v) := by
 obtain ⟨r0, e0⟩ : ∃ r, r = crS ⟨I2 a b, I2 c d⟩ := ⟨_, rfl⟩
 rw [<- e0]
 obtain ⟨ha0, ha1⟩ := ha
 obtain ⟨hb0, hb1⟩ := hb
 obtain ⟨hc0, hc1⟩ := hc
 obtain ⟨hd0, hd1⟩ := hd
 refine Con.of ttOk mixed Tryz.func75 {} .nil 0 (by kernel_rfl) (fun P' E hP hE => ?_)
 cbv
 refine vof_c hP hE rfl rfl (by omega) ?_
 intro p ep hp hpx hpy
 cbv
 refine vof_c hP hE rfl rfl (by omega) ?_
 intro q eq hq hqx hqy
 cbv
 rw [e0, ep, eq]; rfl
theorem awake_con : Con Tryz.prog 16 [] (.v (.bool true)) := by
 have i64 : ∀ n : Int, -100 <= n -> n <= 100 -> in64 n := fun n h1 h2 => ⟨by omega, by omega⟩
 have ks := seg_q 0 0 4 2 (by decide) (by decide) (by decide) (by decide)
 have kt := seg_q 0 2 4 0 (by decide) (by decide) (by decide) (by decide)
 obtain ⟨s, es⟩ : ∃ s, s = crS S0 := ⟨_, rfl⟩
 obtain ⟨t, et⟩ : ∃ t, t = crS T0 := ⟨_, rfl⟩
 have ks : Con Tryz.prog 75 _ (.v (crS S0).v) := ks
 have kt : Con Tryz.prog 75 _ (.v (crS T0).v) := kt
 rw [<- es] at ks
 rw [<- et] at kt
 have hs : IsS 8 s S0 := by rw [es]; exact BdS.is ⟨I2.bd (by decide) (by decide), I2.bd (by decide) (by decide)⟩
 have ht : IsS 8 t T0 := by rw [et]; exact BdS.is ⟨I2.bd (by decide) (by decide), I2.bd (by decide) (by decide)⟩
 obtain ⟨m, mb, me, em, hm, emb, eme, km⟩ := smeet_p hs ht (by decide)
 obtain ⟨cr0, ecr, kcr⟩ := scross_p hs ht (by decide)
 have k3 := ofQ_q 3 (by decide) (by decide)
 obtain ⟨x3, e3⟩ : ∃ x, x = cr ((3 : Int) : Rat) := ⟨_, rfl⟩
 rw [<- e3] at k3
 have h3 : Is 8 x3 ((3 : Int) : Rat) := by rw [e3]; exact (bd_int (by decide)).is
 have k1 := ofQ_q 1 (by decide) (by decide)
 obtain ⟨x1, e1⟩ : ∃ x, x = cr ((1 : Int) : Rat) := ⟨_, rfl⟩
 rw [<- e1] at k1
 have h1 : Is 8 x1 ((1 : Int) : Rat) := by rw [e1]; exact (bd_int (by decide)).is
 obtain ⟨y, ye, ey, hy, eye, ky⟩ := height_p hs h3 (by decide)
 have v1 := vof_q 1 0 (by decide)
 have v2 := vof_q 5 1 (by decide)
 have v3 := vof_q 0 5 (by decide)
 have v4 := vof_q 2 1 (by decide)
 have v1 : Con Tryz.prog 77 _ (.v (crP (I2 1 0)).v) := v1
 have v2 : Con Tryz.prog 77 _ (.v (crP (I2 5 1)).v) := v2
 have v3 : Con Tryz.prog 77 _ (.v (crP (I2 0 5)).v) := v3
 have v4 : Con Tryz.prog 77 _ (.v (crP (I2 2 1)).v) := v4
 obtain ⟨p1, f1⟩ : ∃ p, p = crP (I2 1 0) := ⟨_, rfl⟩
 obtain ⟨p2, f2⟩ : ∃ p, p = crP (I2 5 1) := ⟨_, rfl⟩
 obtain ⟨p3, f3⟩ : ∃ p, p = crP (I2 0 5) := ⟨_, rfl⟩
 obtain ⟨p4, f4⟩ : ∃ p, p = crP (I2 2 1) := ⟨_, rfl⟩
 rw [<- f1] at v1
 rw [<- f2] at v2
 rw [<- f3] at v3
 rw [<- f4] at v4
 have hb : IsB 8 ⟨p1, p2⟩ B0 := by rw [f1, f2]; exact ⟨(I2.bd (by decide) (by decide)).is, (I2.bd (by decide) (by decide)).is⟩
 have hp3 : IsP 8 p3 (I2 0 5) := by rw [f3]; exact (I2.bd (by decide) (by decide)).is
 obtain ⟨c, cb, ce, ec, hc, ecb, ece, kc⟩ := clip_p hs hb (by decide)
 obtain ⟨n, ne, en, hn, ene, kn⟩ := near_p hs hp3 (by decide)
 have kr := ratioQ_q 1 2 (by decide) (by decide) (by decide) (by decide)
 rw [dv2] at kr
 obtain ⟨hf, ehf⟩ : ∃ x, x = cr (((1 : Int) : Rat) / ((2 : Int) : Rat)) := ⟨_, rfl⟩
 rw [<- ehf] at kr
 rw [meet0S] at em
 rw [meet0B] at emb
 rw [meet0E] at eme
 rw [cross0] at ecr
 rw [height0] at ey
 rw [height0E] at eye
 rw [clip0] at ec ecb
 rw [clip0E] at ece
 rw [near0] at en
 rw [chk0] at ene
 have ey : y = ⟨false, ⟨#[3]⟩, ⟨#[2]⟩⟩ := by rw [ey]; exact cr32
 have kp := ratPrint32
 rw [<- ey] at kp
 have q1 : m = ⟨p4, p4⟩ := by rw [em, f4]; rfl
 have q2 : c = ⟨⟨x1, hf⟩, p4⟩ := by rw [ec, f4, e1, ehf]; rfl
 have q3 : n = p4 := by rw [en, f4]
 subst emb eme ecr eye ece ene
 have ecb : cb = true := ecb
 subst ecb
 refine Con.of ttOk mixed Tryz.func16 { ord := [(3, (.op 0 (.br 1 (.br 2 (.op 3 (.op 4 (.op 5 (.op 6 (.op 7 (.op 8 .nil)))))) (.br 6 (.op 2 (.op 3 (.op 4 (.op 5 (.op 7 (.op 8 .nil)))))) .stop)) (.br 6 (.op 1 (.op 2 (.op 3 (.op 4 (.op 5 (.op 7 (.op 8 .nil))))))) .stop)))), (4, (.op 0 (.br 1 (.br 2 (.op 3 (.br 4 (.op 5 (.op 6 (.op 7 (.op 8 (.op 9 (.op 10 (.op 11 (.op 12 .nil)))))))) (.br 9 (.op 4 (.op 5 (.op 6 (.op 7 (.op 8 (.op 10 (.op 11 (.op 12 .nil)))))))) .stop))) (.br 9 (.op 2 (.op 3 (.op 4 (.op 5 (.op 6 (.op 7 (.op 8 (.op 10 (.op 11 (.op 12 .nil)))))))))) .stop)) (.br 9 (.op 1 (.op 2 (.op 3 (.op 4 (.op 5 (.op 6 (.op 7 (.op 8 (.op 10 (.op 11 (.op 12 .nil))))))))))) .stop)))), (5, (.op 0 (.br 1 (.br 2 (.op 3 (.op 4 (.op 5 (.op 6 (.op 7 (.op 8 .nil)))))) (.br 6 (.op 2 (.op 3 (.op 4 (.op 5 (.op 7 (.op 8 .nil)))))) .stop)) (.br 6 (.op 1 (.op 2 (.op 3 (.op 4 (.op 5 (.op 7 (.op 8 .nil))))))) .stop)))), (7, [0, 1, 2, 3, 4, 5, 6, 7, 8, 9, 10, 11, 12, 13, 14, 15, 16, 17, 18, 19, 20, 21, 22, 23, 24, 25, 26, 27, 28, 29, 30, 31, 32, 33, 34, 35, 36, 37, 38, 39, 40, 41, 42, 44, 43, 45, 46, 47, 48, 49, 50, 51, 52, 53, 54, 55])] } .nil 0 (by kernel_rfl) (fun P' E hP hE => ?_)
 cbv
 refine CallTo.w hP hE ks ⟨rfl, rfl, rfl, rfl, trivial⟩ ?_
 cbv
 refine CallTo.w hP hE kt ⟨rfl, rfl, rfl, rfl, trivial⟩ ?_
 cbv
 refine CallTo.w hP hE km ⟨rfl, rfl, trivial⟩ ?_
 cbv
 refine DrawTo.byU [(6, .p 3 0), (7, .v (.int .i64 0))] [.cells y.av 23] ?_ ?_
 ·cbv
  repeat' first
   | exact True.intro
   | (refine Both.mk ?_ ?_ <;> cbv)
   | (refine CallTo.w hP hE k3 ⟨rfl, trivial⟩ ?_; cbv)
   | (refine CallTo.w hP hE ky ⟨rfl, rfl, trivial⟩ ?_; cbv)
   | (simp only [and_self]; done)
 cbv
 refine DrawTo.byU [(8, .p 4 0), (9, .v (.bool true)), (10, .v (.int .i64 0))] [.cells c.av 27] ?_ ?_
 ·cbv
  repeat' first
   | exact True.intro
   | (refine Both.mk ?_ ?_ <;> cbv)
   | (refine CallTo.w hP hE v1 ⟨rfl, rfl, trivial⟩ ?_; cbv)
   | (refine CallTo.w hP hE v2 ⟨rfl, rfl, trivial⟩ ?_; cbv)
   | (refine CallTo.w hP hE kc ⟨rfl, rfl, trivial⟩ ?_; cbv)
   | (simp only [and_self]; done)
 cbv
 refine DrawTo.byU [(11, .p 5 0), (12, .v (.int .i64 0))] [.cells n.av 25] ?_ ?_
 ·cbv
  repeat' first
   | exact True.intro
   | (refine Both.mk ?_ ?_ <;> cbv)
   | (refine CallTo.w hP hE v3 ⟨rfl, rfl, trivial⟩ ?_; cbv)
   | (refine CallTo.w hP hE kn ⟨rfl, rfl, trivial⟩ ?_; cbv)
   | (simp only [and_self]; done)
 cbv
 refine CallTo.w hP hE kr ⟨rfl, rfl, trivial⟩ ?_
 cbv
 repeat (refine fork.yes (by subst hE; rfl) ?_; cbv)
 refine CallTo.w hP hE kcr ⟨rfl, rfl, trivial⟩ ?_
 cbv
 repeat (refine fork.yes (by subst hE; rfl) ?_; cbv)
 refine CallTo.w hP hE v4 ⟨rfl, rfl, trivial⟩ ?_
 cbv
 refine CallTo.w hP hE v4 ⟨rfl, rfl, trivial⟩ ?_
 cbv
 refine fork.yes (by subst hE; exact (eqc_S m ⟨p4, p4⟩).2 q1) ?_
 cbv
 refine CallTo.w hP hE kp ⟨rfl, trivial⟩ ?_
 cbv
 refine fork.yes (by subst hE; refine (show Env.std.sq _ _ = true from ?_); rw [sq_iff]; exact decide_eq_true rfl) ?_
 cbv
 refine CallTo.w hP hE k1 ⟨rfl, trivial⟩ ?_
 cbv
 refine CallTo.w hP hE v4 ⟨rfl, rfl, trivial⟩ ?_
 cbv
 refine fork.yes (by subst hE; exact (eqc_S c ⟨⟨x1, hf⟩, p4⟩).2 q2) ?_
 cbv
 refine CallTo.w hP hE v4 ⟨rfl, rfl, trivial⟩ ?_
 cbv
 subst hE
 have h9 := (eqc_P n p4).2 q3
 exact congrArg Value.bool h9
theorem awake_c {P' : Program} {E : Env} (hP : P' = Tryz.prog) (hE : E = Env.std) {hh : List Blk} {K : AV -> List Blk -> Prop} (hk : K (.v (.bool true)) hh) : CallTo P' hh 16 [] K :=
 CallTo.w hP hE awake_con trivial hk
theorem bigL_is {l : List Pt} (h : bigL l = false) : ∀ p ∈ l, IsP 40 p p.q := by
 induction l with
 | nil => intro p hp; cases hp
 | cons q l ih =>
  simp only [bigL, Bool.or_eq_false_iff] at h
  intro p hp
  rcases List.mem_cons.1 hp with rfl | hp
  ·simp only [bigB, Bool.or_eq_false_iff, decide_eq_false_iff_not, Nat.not_lt] at h
   exact ⟨Is.of _ h.1.1 h.1.2.1 (by decide), Is.of _ h.1.2.2.1 h.1.2.2.2 (by decide)⟩
  ·exact ih h.2 p hp
end Go.Proofs.YtfdealobplcboaaGreat.Sx
