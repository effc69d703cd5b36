/- Part 16 of what the statement needs: an executor of Go texts, arithmetic, and contracts of the functions that are called. -/
import Derived.Test.YtfdealobplcboaaGreatCu15
set_option linter.unusedVariables false
set_option linter.unusedSimpArgs false
set_option maxRecDepth 100000
set_option maxHeartbeats 16000000
namespace Go.Proofs.YtfdealobplcboaaGreat.Sx
theorem sides_ok : InlOk Tryz.prog [(114, Tryz.f114, {}), (172, Tryz.f172, {}), (173, Tryz.f173, {}), (174, Tryz.f174, {}), (175, Tryz.f175, {})] :=
 InlOk.cons Tryz.func114 (by kernel_rfl) (InlOk.cons Tryz.func172 (by kernel_rfl) (InlOk.cons Tryz.func173 (by kernel_rfl) (InlOk.cons Tryz.func174 (by kernel_rfl) (InlOk.cons Tryz.func175 (by kernel_rfl) .nil))))
theorem clipL_step {s : Sq} {b : Bq} {i : Nat} {l : List Nat} {lh : Rat × Rat} {res : Option (Rat × Rat)} (h : clipL s b (i :: l) lh = res) : (match clip1 (sideQ b i s.a) (sideQ b i s.b) lh with
  | none => none
  | some lh' => clipL s b l lh') = res := h
/-- As St.le, where no block has another number: in parts. -/
theorem St.le0 {m : Nat} {s t : St} (h1 : leA (rho []) s.t t.t) (h2 : leH (rho []) s.h 0 t.h) (h3 : decide (t.h.length <= s.h.length) = true) (h4 : decide (m <= t.h.length) = true) (h5 : (AV.okBs t.h.length t.t && t.h.all (Blk.okB t.h.length)) = true) : St.le m [] s t := by
 refine ⟨h1, h2, ?_, ?_, of_decide_eq_true h4, h5⟩
 ·simp [rho]
 ·have h3 := of_decide_eq_true h3
  simp only [List.all_eq_true, Bool.and_eq_true, decide_eq_true_eq, Bool.or_eq_true, beq_iff_eq, bne_iff_ne, rho, List.getD_nil, ne_eq]
  intro i hi
  have := (upTo_mem.1 hi).2
  exact ⟨by first | exact decide_eq_true (show i < s.h.length by omega) | exact (show i < s.h.length by omega), fun j _ => Classical.em _⟩
/-- A loop of four rounds: what it holds ahead of each, told apart. -/
theorem LoopTo.fin4 {κ : Type} {P : Program} {m : Nat} {c : Unit -> Code} {B : Unit -> (X -> St -> Prop) -> St -> Prop} {K : X -> St -> Prop} {s : St} (chg : Int -> κ -> List (Nat × AV)) (hc : κ -> List (Nat × Blk)) (p : Nat -> κ -> Prop) (x0 : κ) (r0 : List Nat) (hp : p 0 x0) (h0 : St.le m r0 s (s.upd (c ()) (chg 0 x0) (hc x0)))
  (b0 : ∀ x, p 0 x -> B () (fun X s' => match X with
   | .n => ∃ y r, p 1 y /\ St.le m r s' (s.upd (c ()) (chg 1 y) (hc y))
   | X => K X s') (s.upd (c ()) (chg 0 x) (hc x)))
  (b1 : ∀ x, p 1 x -> B () (fun X s' => match X with
   | .n => ∃ y r, p 2 y /\ St.le m r s' (s.upd (c ()) (chg 2 y) (hc y))
   | X => K X s') (s.upd (c ()) (chg 1 x) (hc x)))
  (b2 : ∀ x, p 2 x -> B () (fun X s' => match X with
   | .n => ∃ y r, p 3 y /\ St.le m r s' (s.upd (c ()) (chg 3 y) (hc y))
   | X => K X s') (s.upd (c ()) (chg 2 x) (hc x)))
  (b3 : ∀ x, p 3 x -> B () (fun X s' => match X with
   | .n => ∃ y r, p 4 y /\ St.le m r s' (s.upd (c ()) (chg 4 y) (hc y))
   | X => K X s') (s.upd (c ()) (chg 3 x) (hc x)))
  (b4 : ∀ x, p 4 x -> B () (fun X s' => match X with
   | .n => False
   | X => K X s') (s.upd (c ()) (chg 4 x) (hc x))) : LoopTo P m c B K s := by
 refine ⟨fun ro hB w0 β0 β M a w ht hw hx => ?_⟩
 have step : ∀ (k n : Nat) (S : St), (∀ s' β M a w, RelT (M.map mark) β s'.h.length s'.t a -> RelW (w0.add M) β s'.h w -> Ext m β0 s'.h β -> (∃ y r, p (k + 1) y /\ St.le m r s' (s.upd (c ()) (chg ((k : Int) + 1) y) (hc y))) -> Code.roundsIn (fen ro) 0 P (c ()) (QQ w0 m β0 K) n a w) ->
   ∀ β M a w, B () (fun X s' => match X with
   | .n => ∃ y r, p (k + 1) y /\ St.le m r s' (s.upd (c ()) (chg ((k : Int) + 1) y) (hc y))
   | X => K X s') S -> RelT (M.map mark) β S.h.length S.t a -> RelW (w0.add M) β S.h w -> Ext m β0 S.h β -> Code.roundsIn (fen ro) 0 P (c ()) (QQ w0 m β0 K) (n + 1) a w := by
  intro k n S hn β M a w hb ht hw hx
  rw [roundsIn_succ]
  refine wpIn_mono (hB w0 β0 _ S β M a w hb ht hw hx) (fun e a w hq => ?_)
  cases e with
  | normal =>
   obtain ⟨s', β', M', h1, h2, h3, h4⟩ := hq
   exact hn s' β' M' a w h1 h2 h3 h4
  | ret => exact hq
  | exit j => exact hq
  | _ => exact hq
 have s4 : ∀ s' β M a w, RelT (M.map mark) β s'.h.length s'.t a -> RelW (w0.add M) β s'.h w -> Ext m β0 s'.h β -> (∃ y r, p 4 y /\ St.le m r s' (s.upd (c ()) (chg 4 y) (hc y))) -> Code.roundsIn (fen ro) 0 P (c ()) (QQ w0 m β0 K) 1 a w := by
  rintro s' β M a w h1 h2 h3 ⟨y, r, hy, hl⟩
  obtain ⟨q1, q2, q3⟩ := St.le_rel hl h1 h2 h3
  rw [roundsIn_succ]
  refine wpIn_mono (hB w0 β0 _ _ _ M a w (b4 y hy) q1 q2 q3) (fun e a w hq => ?_)
  cases e with
  | normal => obtain ⟨s', β', M', h1, h2, h3, h4⟩ := hq; exact h4.elim
  | ret => exact hq
  | exit j => exact hq
  | _ => exact hq
 have s3 : ∀ s' β M a w, RelT (M.map mark) β s'.h.length s'.t a -> RelW (w0.add M) β s'.h w -> Ext m β0 s'.h β -> (∃ y r, p 3 y /\ St.le m r s' (s.upd (c ()) (chg 3 y) (hc y))) -> Code.roundsIn (fen ro) 0 P (c ()) (QQ w0 m β0 K) 2 a w := by
  rintro s' β M a w h1 h2 h3 ⟨y, r, hy, hl⟩
  obtain ⟨q1, q2, q3⟩ := St.le_rel hl h1 h2 h3
  exact step 3 1 _ s4 _ M a w (b3 y hy) q1 q2 q3
 have s2 : ∀ s' β M a w, RelT (M.map mark) β s'.h.length s'.t a -> RelW (w0.add M) β s'.h w -> Ext m β0 s'.h β -> (∃ y r, p 2 y /\ St.le m r s' (s.upd (c ()) (chg 2 y) (hc y))) -> Code.roundsIn (fen ro) 0 P (c ()) (QQ w0 m β0 K) 3 a w := by
  rintro s' β M a w h1 h2 h3 ⟨y, r, hy, hl⟩
  obtain ⟨q1, q2, q3⟩ := St.le_rel hl h1 h2 h3
  exact step 2 2 _ s3 _ M a w (b2 y hy) q1 q2 q3
 have s1 : ∀ s' β M a w, RelT (M.map mark) β s'.h.length s'.t a -> RelW (w0.add M) β s'.h w -> Ext m β0 s'.h β -> (∃ y r, p 1 y /\ St.le m r s' (s.upd (c ()) (chg 1 y) (hc y))) -> Code.roundsIn (fen ro) 0 P (c ()) (QQ w0 m β0 K) 4 a w := by
  rintro s' β M a w h1 h2 h3 ⟨y, r, hy, hl⟩
  obtain ⟨q1, q2, q3⟩ := St.le_rel hl h1 h2 h3
  exact step 1 3 _ s2 _ M a w (b1 y hy) q1 q2 q3
 have s0 : ∀ s' β M a w, RelT (M.map mark) β s'.h.length s'.t a -> RelW (w0.add M) β s'.h w -> Ext m β0 s'.h β -> (∃ y r, p 0 y /\ St.le m r s' (s.upd (c ()) (chg 0 y) (hc y))) -> Code.roundsIn (fen ro) 0 P (c ()) (QQ w0 m β0 K) 5 a w := by
  rintro s' β M a w h1 h2 h3 ⟨y, r, hy, hl⟩
  obtain ⟨q1, q2, q3⟩ := St.le_rel hl h1 h2 h3
  exact step 0 4 _ s1 _ M a w (b0 y hy) q1 q2 q3
 exact wpIn_loop_rounds 5 (s0 s β M a w ht hw hx ⟨x0, r0, hp, h0⟩)
theorem Is.one : Is 1 (cr ((1 : Int) : Rat)) 1 := (Bd.int (k := 1) (n := 1) (by decide) (by decide)).is
/-- The four ways of a round. -/
theorem clip1_out {fr go : Rat} {lh : Rat × Rat} (h1 : dvE (go - fr) ≠ 0) (h2 : cmpQ fr 0 < 0) : clip1 fr go lh = none := by unfold clip1; rw [if_pos h1, if_pos h2]
theorem clip1_in {fr go : Rat} {lh : Rat × Rat} (h1 : dvE (go - fr) ≠ 0) (h2 : ¬ cmpQ fr 0 < 0) : clip1 fr go lh = some lh := by unfold clip1; rw [if_pos h1, if_neg h2]
theorem clip1_low {fr go : Rat} {lh : Rat × Rat} (h1 : dvE (go - fr) = 0) (h2 : 0 < cmpQ (go - fr) 0) (h3 : 0 < cmpQ (-fr / (go - fr)) lh.1) : clip1 fr go lh = some (-fr / (go - fr), lh.2) := by unfold clip1; rw [if_neg (by simp [h1]), if_pos ⟨h2, h3⟩]
theorem clip1_high {fr go : Rat} {lh : Rat × Rat} (h1 : dvE (go - fr) = 0) (h2 : ¬ (0 < cmpQ (go - fr) 0 /\ 0 < cmpQ (-fr / (go - fr)) lh.1)) (h3 : cmpQ (go - fr) 0 < 0) (h4 : cmpQ (-fr / (go - fr)) lh.2 < 0) : clip1 fr go lh = some (lh.1, -fr / (go - fr)) := by unfold clip1; rw [if_neg (by simp [h1]), if_neg h2, if_pos ⟨h3, h4⟩]
theorem clip1_same {fr go : Rat} {lh : Rat × Rat} (h1 : dvE (go - fr) = 0) (h2 : ¬ (0 < cmpQ (go - fr) 0 /\ 0 < cmpQ (-fr / (go - fr)) lh.1)) (h3 : ¬ (cmpQ (go - fr) 0 < 0 /\ cmpQ (-fr / (go - fr)) lh.2 < 0)) : clip1 fr go lh = some lh := by unfold clip1; rw [if_neg (by simp [h1]), if_neg h2, if_neg h3]
/-- What the loop holds: the next side, the parameters so far. -/
structure ClipI (k : Nat) (s : Sq) (b : Bq) (res : Option (Rat × Rat)) (i : Nat) (lo hi : R) (x y : Rat) : Prop where
 le : i <= 4
 lo : Is (6 * k + 4) lo x
 hi : Is (6 * k + 4) hi y
 eq : clipL s b ([0, 1, 2, 3].drop i) (x, y) = res
theorem clip_q {a : Sg} {S : Sq} {k : Nat} {b : Bx} {B : Bq} (ha : IsS k a S) (hb : IsB k b B) (h : 40 * k + 40 <= 134217728) : Con Tryz.prog 40 [.v a.v, .v b.v] (.v (.tuple #[(crS ((clipR S B).getD Sq.zero)).v, .bool ((clipR S B).isSome), .int .i64 (clipE S B)])) := by
 obtain ⟨⟨⟨an0, au0, ad0⟩, ⟨an1, au1, ad1⟩⟩, ⟨⟨an2, au2, ad2⟩, ⟨an3, au3, ad3⟩⟩⟩ := a
 have haa : IsP k ⟨⟨an0, au0, ad0⟩, ⟨an1, au1, ad1⟩⟩ S.a := ha.a
 have hab : IsP k ⟨⟨an2, au2, ad2⟩, ⟨an3, au3, ad3⟩⟩ S.b := ha.b
 have haax : Is k ⟨an0, au0, ad0⟩ S.a.x := ha.a.x
 have haay : Is k ⟨an1, au1, ad1⟩ S.a.y := ha.a.y
 have habx : Is k ⟨an2, au2, ad2⟩ S.b.x := ha.b.x
 have haby : Is k ⟨an3, au3, ad3⟩ S.b.y := ha.b.y
 obtain ⟨⟨⟨bn0, bu0, bd0⟩, ⟨bn1, bu1, bd1⟩⟩, ⟨⟨bn2, bu2, bd2⟩, ⟨bn3, bu3, bd3⟩⟩⟩ := b
 have hblo : IsP k ⟨⟨bn0, bu0, bd0⟩, ⟨bn1, bu1, bd1⟩⟩ B.lo := hb.lo
 have hbhi : IsP k ⟨⟨bn2, bu2, bd2⟩, ⟨bn3, bu3, bd3⟩⟩ B.hi := hb.hi
 have hblox : Is k ⟨bn0, bu0, bd0⟩ B.lo.x := hb.lo.x
 have hbloy : Is k ⟨bn1, bu1, bd1⟩ B.lo.y := hb.lo.y
 have hbhix : Is k ⟨bn2, bu2, bd2⟩ B.hi.x := hb.hi.x
 have hbhiy : Is k ⟨bn3, bu3, bd3⟩ B.hi.y := hb.hi.y
 obtain ⟨r0, e0⟩ : ∃ r, r = crS ((clipR S B).getD Sq.zero) := ⟨_, rfl⟩
 rw [<- e0]
 obtain ⟨r1, e1⟩ : ∃ r, r = (clipR S B).isSome := ⟨_, rfl⟩
 rw [<- e1]
 obtain ⟨r2, e2⟩ : ∃ r, r = clipE S B := ⟨_, rfl⟩
 rw [<- e2]
 have hz : Is (6 * k + 4) ⟨false, ⟨⟨[]⟩⟩, ⟨⟨[]⟩⟩⟩ 0 := Is.zero.mono (by omega)
 have h1 : Is (6 * k + 4) (cr ((1 : Int) : Rat)) 1 := Is.one.mono (by omega)
 obtain ⟨res, hres⟩ : ∃ r, r = clipL S B [0, 1, 2, 3] (0, 1) := ⟨_, rfl⟩
 obtain ⟨f0, ef0, hf0, kf0⟩ := sub_p haax hblox (by omega)
 obtain ⟨g0, eg0, hg0, kg0⟩ := sub_p habx hblox (by omega)
 obtain ⟨d0, ed0, hd0, kd0⟩ := sub_p hg0 hf0 (by omega)
 obtain ⟨n0, en0, hn0, kn0⟩ := neg_p hf0 (by omega)
 obtain ⟨t0, m0, et0, ht0, em0, kt0⟩ := quo_p hn0 hd0 (by omega)
 obtain ⟨w0, hw0⟩ : ∃ w, w = -sideQ B 0 S.a / (sideQ B 0 S.b - sideQ B 0 S.a) := ⟨_, rfl⟩
 have ht0 : Is (6 * k + 4) t0 w0 := by rw [hw0]; exact ht0.mono (by omega)
 obtain ⟨f1, ef1, hf1, kf1⟩ := sub_p hbhix haax (by omega)
 obtain ⟨g1, eg1, hg1, kg1⟩ := sub_p hbhix habx (by omega)
 obtain ⟨d1, ed1, hd1, kd1⟩ := sub_p hg1 hf1 (by omega)
 obtain ⟨n1, en1, hn1, kn1⟩ := neg_p hf1 (by omega)
 obtain ⟨t1, m1, et1, ht1, em1, kt1⟩ := quo_p hn1 hd1 (by omega)
 obtain ⟨w1, hw1⟩ : ∃ w, w = -sideQ B 1 S.a / (sideQ B 1 S.b - sideQ B 1 S.a) := ⟨_, rfl⟩
 have ht1 : Is (6 * k + 4) t1 w1 := by rw [hw1]; exact ht1.mono (by omega)
 obtain ⟨f2, ef2, hf2, kf2⟩ := sub_p haay hbloy (by omega)
 obtain ⟨g2, eg2, hg2, kg2⟩ := sub_p haby hbloy (by omega)
 obtain ⟨d2, ed2, hd2, kd2⟩ := sub_p hg2 hf2 (by omega)
 obtain ⟨n2, en2, hn2, kn2⟩ := neg_p hf2 (by omega)
 obtain ⟨t2, m2, et2, ht2, em2, kt2⟩ := quo_p hn2 hd2 (by omega)
 obtain ⟨w2, hw2⟩ : ∃ w, w = -sideQ B 2 S.a / (sideQ B 2 S.b - sideQ B 2 S.a) := ⟨_, rfl⟩
 have ht2 : Is (6 * k + 4) t2 w2 := by rw [hw2]; exact ht2.mono (by omega)
 obtain ⟨f3, ef3, hf3, kf3⟩ := sub_p hbhiy haay (by omega)
 obtain ⟨g3, eg3, hg3, kg3⟩ := sub_p hbhiy haby (by omega)
 obtain ⟨d3, ed3, hd3, kd3⟩ := sub_p hg3 hf3 (by omega)
 obtain ⟨n3, en3, hn3, kn3⟩ := neg_p hf3 (by omega)
 obtain ⟨t3, m3, et3, ht3, em3, kt3⟩ := quo_p hn3 hd3 (by omega)
 obtain ⟨w3, hw3⟩ : ∃ w, w = -sideQ B 3 S.a / (sideQ B 3 S.b - sideQ B 3 S.a) := ⟨_, rfl⟩
 have ht3 : Is (6 * k + 4) t3 w3 := by rw [hw3]; exact ht3.mono (by omega)
 refine Con.of ttOk mixed Tryz.func40 { ord := [(9, (.op 0 (.op 1 (.op 2 (.op 4 (.op 5 (.op 6 (.br 3 (.br 7 (.br 8 (.op 9 (.op 10 (.op 11 .nil))) (.br 9 (.op 8 (.op 10 (.op 11 .nil))) .stop)) (.br 8 (.br 7 (.op 9 (.op 10 (.op 11 .nil))) (.br 9 (.op 7 (.op 10 (.op 11 .nil))) .stop)) (.br 9 (.br 7 (.op 8 (.op 10 (.op 11 .nil))) (.br 8 (.op 7 (.op 10 (.op 11 .nil))) .stop)) .stop))) (.br 8 (.br 3 (.br 7 (.op 9 (.op 10 (.op 11 .nil))) (.br 9 (.op 7 (.op 10 (.op 11 .nil))) .stop)) (.br 9 (.op 3 (.op 7 (.op 10 (.op 11 .nil)))) .stop)) (.br 9 (.br 3 (.br 7 (.op 8 (.op 10 (.op 11 .nil))) (.br 8 (.op 7 (.op 10 (.op 11 .nil))) .stop)) (.br 8 (.op 3 (.op 7 (.op 10 (.op 11 .nil)))) .stop)) .stop)))))))))), (11, (.op 0 (.op 2 (.br 1 (.br 3 (.op 4 (.op 5 (.op 6 (.op 7 (.op 8 (.op 9 .nil)))))) (.br 7 (.op 3 (.op 4 (.op 5 (.op 6 (.op 8 (.op 9 .nil)))))) .stop)) (.br 7 (.op 1 (.op 3 (.op 4 (.op 5 (.op 6 (.op 8 (.op 9 .nil))))))) .stop))))), (22, [0, 1, 2, 3, 4, 6, 7, 8, 9, 10, 5, 11, 12, 13, 14, 15])] } sides_ok 2 (by kernel_rfl) (fun P' E hP hE => ?_)
 cbv
 refine schk_c hP hE (by assumption) (by omega) ?_
 intro c0 ec0
 cbv
 refine fork.mk ?_ ?_
 ·intro z1
  cbv
  subst hE
  simp [Env.std] at z1
  have hm : clipE S B = 12 := by rw [clipE, if_pos (by rw [<- ec0]; exact z1)]
  have hr : clipR S B = none := by rw [clipR, if_pos (by rw [hm]; simp)]
  rw [e0, e1, e2, hr, hm]
  show _ = Value.tuple #[(crS Sq.zero).v, .bool false, _]
  rw [crS_zero]
 ·intro z1
  cbv
  refine cmp_c hP hE (by assumption) (by assumption) (by omega) ?_
  intro c1 ec1
  cbv
  have hbad : (0 < c1 \/ 0 < cmpQ B.lo.y B.hi.y) -> c0 = 0 -> clipE S B = 1 /\ clipR S B = none := fun hh hc => by
   have hm : clipE S B = 1 := by rw [clipE, if_neg (by rw [<- ec0, hc]; simp), if_pos (by rw [<- ec1]; exact hh)]
   exact ⟨hm, by rw [clipR, if_pos (by rw [hm]; simp)]⟩
  have hok : ¬ 0 < c1 -> ¬ 0 < cmpQ B.lo.y B.hi.y -> c0 = 0 -> clipE S B = 0 := fun h1 h2 hc => by
   rw [clipE, if_neg (by rw [<- ec0, hc]; simp), if_neg (by rw [<- ec1]; exact fun h => h.elim h1 h2)]
  refine fork.mk ?_ ?_
  ·intro z2
   cbv
   subst hE
   simp [Env.std] at z1 z2
   obtain ⟨hm, hr⟩ := hbad (.inl z2) z1
   rw [e0, e1, e2, hr, hm]
   show _ = Value.tuple #[(crS Sq.zero).v, .bool false, _]
   rw [crS_zero]
  ·intro z2
   cbv
   refine cmp_c hP hE (by assumption) (by assumption) (by omega) ?_
   intro c2 ec2
   cbv
   refine fork.mk ?_ ?_
   ·intro z3
    cbv
    subst hE
    simp [Env.std] at z1 z3
    obtain ⟨hm, hr⟩ := hbad (.inr (by rw [<- ec2]; exact z3)) z1
    rw [e0, e1, e2, hr, hm]
    show _ = Value.tuple #[(crS Sq.zero).v, .bool false, _]
    rw [crS_zero]
   ·intro z3
    have hm : clipE S B = 0 := by
     subst hE
     simp [Env.std] at z1 z2 z3
     exact hok (by omega) (by rw [<- ec2]; omega) z1
    have hr : clipR S B = clipK S res := by rw [clipR, if_neg (by rw [hm]; simp), hres]
    clear hbad hok
    rw [hm] at e2
    rw [hr] at e0 e1
    cbv
    refine CallTo.r hP hE (ofQ_q 1 (by decide) (by decide)) (Bd.int (k := 1) (n := 1) (by decide) (by decide)) ⟨rfl, trivial⟩ ?_
    intro o eo ho
    have ho : Is (6 * k + 4) o 1 := ho.mono (by omega)
    cbv
    refine LoopTo.fin4 (κ := (R × R) × (Rat × Rat)) (fun i x => [(43, .c (.int .i64 i))]) (fun x => [(5, .cells x.1.1.av 23), (6, .cells x.1.2.av 23)]) (fun i x => ClipI k S B res i x.1.1 x.1.2 x.2.1 x.2.2) ((⟨false, ⟨⟨[]⟩⟩, ⟨⟨[]⟩⟩⟩, o), (0, 1)) [] ⟨Nat.zero_le _, hz, ho, hres.symm⟩ ?_ ?_ ?_ ?_ ?_ ?_
    ·cbv
     simp only [and_self]
    ·rintro ⟨⟨lo, hi⟩, ⟨x, y⟩⟩ hI
     have hst := clipL_step (i := 0) (l := [1, 2, 3]) hI.eq
     have hlo : Is (6 * k + 4) lo x := hI.lo
     have hhi : Is (6 * k + 4) hi y := hI.hi
     have hnx : ∀ x' y', clip1 (sideQ B 0 S.a) (sideQ B 0 S.b) (x, y) = some (x', y') -> clipL S B [1, 2, 3] (x', y') = res := fun x' y' h => by rw [h] at hst; exact hst
     have hno : clip1 (sideQ B 0 S.a) (sideQ B 0 S.b) (x, y) = none -> res = none := fun h => by rw [h] at hst; exact hst.symm
     clear hI hst
     cbv
     refine DrawTo.byU [(11, .p 9 0), (12, .p 10 0)] [.cells f0.av 23, .cells g0.av 23] ?_ ?_
     ·cbv
      repeat' first
       | exact True.intro
       | (refine Both.mk ?_ ?_ <;> cbv)
       | (refine CallTo.w hP hE kf0 ⟨rfl, rfl, trivial⟩ ?_; cbv)
       | (refine CallTo.w hP hE kg0 ⟨rfl, rfl, trivial⟩ ?_; cbv)
       | (simp only [and_self]; done)
     cbv
     refine CallTo.w hP hE kd0 ⟨rfl, rfl, trivial⟩ ?_
     cbv
     refine DrawTo.byU [(14, .p 12 0), (15, .v (.int .i64 m0))] [.cells t0.av 23] ?_ ?_
     ·cbv
      repeat' first
       | exact True.intro
       | (refine Both.mk ?_ ?_ <;> cbv)
       | (refine CallTo.w hP hE kn0 ⟨rfl, trivial⟩ ?_; cbv)
       | (refine CallTo.w hP hE kt0 ⟨rfl, rfl, trivial⟩ ?_; cbv)
       | (simp only [and_self]; done)
     cbv
     refine fork.mk ?_ ?_
     ·intro q1
      have q1' : dvE (sideQ B 0 S.b - sideQ B 0 S.a) ≠ 0 := by
       subst hE
       simp [Env.std] at q1
       rw [em0] at q1; exact q1
      cbv
      refine sign_c hP hE (by assumption) (by omega) ?_
      intro v1 ev1
      cbv
      refine fork.mk ?_ ?_
      ·intro q2
       cbv
       subst hE
       simp [Env.std] at q2
       have hr0 := hno (clip1_out q1' (by rw [ev1] at q2; exact q2))
       rw [e0, e1, e2, hr0]
       show _ = Value.tuple #[(crS Sq.zero).v, .bool false, _]
       rw [crS_zero]
      ·intro q2
       have hn := hnx _ _ (clip1_in q1' (by
        subst hE
        simp [Env.std] at q2
        rw [ev1] at q2; exact fun h => absurd (Int.lt_of_lt_of_le h q2) (Int.lt_irrefl _)))
       cbv
       refine fork.mk ?_ ?_
       ·intro q3
        cbv
        refine ⟨((lo, hi), (x, y)), [], ⟨by decide, hlo, hhi, hn⟩, St.le0 ?_ ?_ ?_ ?_ ?_⟩ <;> cbv
        all_goals (simp only [and_self])
       ·intro q3
        exfalso
        subst hE
        simp [Env.std] at q1 q3
        exact q1 q3
     ·intro q1
      have q1' : dvE (sideQ B 0 S.b - sideQ B 0 S.a) = 0 := by
       subst hE
       simp [Env.std] at q1
       rw [em0] at q1; exact q1
      cbv
      refine fork.mk ?_ ?_
      ·intro q2
       exfalso
       subst hE
       simp [Env.std] at q1 q2
       exact q2 q1
      ·intro q2
       cbv
       refine sign_c hP hE (by assumption) (by omega) ?_
       intro v1 ev1
       cbv
       refine fork.mk ?_ ?_
       ·intro q3
        have q3' : 0 < cmpQ (sideQ B 0 S.b - sideQ B 0 S.a) 0 := by
         subst hE
         simp [Env.std] at q3
         rw [ev1] at q3; exact q3
        cbv
        refine cmp_c hP hE (by assumption) (by assumption) (by omega) ?_
        intro v2 ev2
        cbv
        refine fork.mk ?_ ?_
        ·intro q4
         have hn := hnx _ _ (clip1_low q1' q3' (by
          subst hE
          simp [Env.std] at q4
          rw [ev2, hw0] at q4; exact q4))
         rw [<- hw0] at hn
         cbv
         refine ⟨((t0, hi), (w0, y)), [], ⟨by decide, ht0, hhi, hn⟩, St.le0 ?_ ?_ ?_ ?_ ?_⟩ <;> cbv
         all_goals (simp only [and_self])
        ·intro q4
         have q4' : ¬ 0 < cmpQ (-sideQ B 0 S.a / (sideQ B 0 S.b - sideQ B 0 S.a)) x := by
          subst hE
          simp [Env.std] at q4
          rw [ev2, hw0] at q4; exact fun h => absurd (Int.lt_of_lt_of_le h q4) (Int.lt_irrefl _)
         have hn := hnx _ _ (clip1_same (lh := (x, y)) q1' (fun h => q4' h.2) (fun h => by have := h.1; omega))
         cbv
         refine sign_c hP hE (by assumption) (by omega) ?_
         intro v3 ev3
         cbv
         refine fork.mk ?_ ?_
         ·intro q5
          exfalso
          subst hE
          simp [Env.std] at q5
          rw [ev3] at q5
          have q5 : cmpQ (sideQ B 0 S.b - sideQ B 0 S.a) 0 < 0 := q5
          omega
         ·intro q5
          cbv
          refine ⟨((lo, hi), (x, y)), [], ⟨by decide, hlo, hhi, hn⟩, St.le0 ?_ ?_ ?_ ?_ ?_⟩ <;> cbv
          all_goals (simp only [and_self])
       ·intro q3
        have q3' : ¬ 0 < cmpQ (sideQ B 0 S.b - sideQ B 0 S.a) 0 := by
         subst hE
         simp [Env.std] at q3
         rw [ev1] at q3
         exact fun h => absurd (Int.lt_of_lt_of_le h q3) (Int.lt_irrefl _)
        cbv
        refine sign_c hP hE (by assumption) (by omega) ?_
        intro v3 ev3
        cbv
        refine fork.mk ?_ ?_
        ·intro q5
         have q5' : cmpQ (sideQ B 0 S.b - sideQ B 0 S.a) 0 < 0 := by
          subst hE
          simp [Env.std] at q5
          rw [ev3] at q5; exact q5
         cbv
         refine cmp_c hP hE (by assumption) (by assumption) (by omega) ?_
         intro v4 ev4
         cbv
         refine fork.mk ?_ ?_
         ·intro q6
          have hn := hnx _ _ (clip1_high q1' (fun h => q3' h.1) q5' (by
           subst hE
           simp [Env.std] at q6
           rw [ev4, hw0] at q6; exact q6))
          rw [<- hw0] at hn
          cbv
          refine ⟨((lo, t0), (x, w0)), [], ⟨by decide, hlo, ht0, hn⟩, St.le0 ?_ ?_ ?_ ?_ ?_⟩ <;> cbv
          all_goals (simp only [and_self])
         ·intro q6
          have hn := hnx _ _ (clip1_same (lh := (x, y)) q1' (fun h => q3' h.1) (fun h => by
           subst hE
           simp [Env.std] at q6
           rw [ev4, hw0] at q6
           exact absurd (Int.lt_of_lt_of_le h.2 q6) (Int.lt_irrefl _)))
          cbv
          refine ⟨((lo, hi), (x, y)), [], ⟨by decide, hlo, hhi, hn⟩, St.le0 ?_ ?_ ?_ ?_ ?_⟩ <;> cbv
          all_goals (simp only [and_self])
        ·intro q5
         have hn := hnx _ _ (clip1_same (lh := (x, y)) q1' (fun h => q3' h.1) (fun h => by
          subst hE
          simp [Env.std] at q5
          rw [ev3] at q5
          exact absurd (Int.lt_of_lt_of_le h.1 q5) (Int.lt_irrefl _)))
         cbv
         refine ⟨((lo, hi), (x, y)), [], ⟨by decide, hlo, hhi, hn⟩, St.le0 ?_ ?_ ?_ ?_ ?_⟩ <;> cbv
         all_goals (simp only [and_self])
    ·rintro ⟨⟨lo, hi⟩, ⟨x, y⟩⟩ hI
     have hst := clipL_step (i := 1) (l := [2, 3]) hI.eq
     have hlo : Is (6 * k + 4) lo x := hI.lo
     have hhi : Is (6 * k + 4) hi y := hI.hi
     have hnx : ∀ x' y', clip1 (sideQ B 1 S.a) (sideQ B 1 S.b) (x, y) = some (x', y') -> clipL S B [2, 3] (x', y') = res := fun x' y' h => by rw [h] at hst; exact hst
     have hno : clip1 (sideQ B 1 S.a) (sideQ B 1 S.b) (x, y) = none -> res = none := fun h => by rw [h] at hst; exact hst.symm
     clear hI hst
     cbv
     refine DrawTo.byU [(11, .p 9 0), (12, .p 10 0)] [.cells f1.av 23, .cells g1.av 23] ?_ ?_
     ·cbv
      repeat' first
       | exact True.intro
       | (refine Both.mk ?_ ?_ <;> cbv)
       | (refine CallTo.w hP hE kf1 ⟨rfl, rfl, trivial⟩ ?_; cbv)
       | (refine CallTo.w hP hE kg1 ⟨rfl, rfl, trivial⟩ ?_; cbv)
       | (simp only [and_self]; done)
     cbv
     refine CallTo.w hP hE kd1 ⟨rfl, rfl, trivial⟩ ?_
     cbv
     refine DrawTo.byU [(14, .p 12 0), (15, .v (.int .i64 m1))] [.cells t1.av 23] ?_ ?_
     ·cbv
      repeat' first
       | exact True.intro
       | (refine Both.mk ?_ ?_ <;> cbv)
       | (refine CallTo.w hP hE kn1 ⟨rfl, trivial⟩ ?_; cbv)
       | (refine CallTo.w hP hE kt1 ⟨rfl, rfl, trivial⟩ ?_; cbv)
       | (simp only [and_self]; done)
     cbv
     refine fork.mk ?_ ?_
     ·intro q1
      have q1' : dvE (sideQ B 1 S.b - sideQ B 1 S.a) ≠ 0 := by
       subst hE
       simp [Env.std] at q1
       rw [em1] at q1; exact q1
      cbv
      refine sign_c hP hE (by assumption) (by omega) ?_
      intro v1 ev1
      cbv
      refine fork.mk ?_ ?_
      ·intro q2
       cbv
       subst hE
       simp [Env.std] at q2
       have hr0 := hno (clip1_out q1' (by rw [ev1] at q2; exact q2))
       rw [e0, e1, e2, hr0]
       show _ = Value.tuple #[(crS Sq.zero).v, .bool false, _]
       rw [crS_zero]
      ·intro q2
       have hn := hnx _ _ (clip1_in q1' (by
        subst hE
        simp [Env.std] at q2
        rw [ev1] at q2; exact fun h => absurd (Int.lt_of_lt_of_le h q2) (Int.lt_irrefl _)))
       cbv
       refine fork.mk ?_ ?_
       ·intro q3
        cbv
        refine ⟨((lo, hi), (x, y)), [], ⟨by decide, hlo, hhi, hn⟩, St.le0 ?_ ?_ ?_ ?_ ?_⟩ <;> cbv
        all_goals (simp only [and_self])
       ·intro q3
        exfalso
        subst hE
        simp [Env.std] at q1 q3
        exact q1 q3
     ·intro q1
      have q1' : dvE (sideQ B 1 S.b - sideQ B 1 S.a) = 0 := by
       subst hE
       simp [Env.std] at q1
       rw [em1] at q1; exact q1
      cbv
      refine fork.mk ?_ ?_
      ·intro q2
       exfalso
       subst hE
       simp [Env.std] at q1 q2
       exact q2 q1
      ·intro q2
       cbv
       refine sign_c hP hE (by assumption) (by omega) ?_
       intro v1 ev1
       cbv
       refine fork.mk ?_ ?_
       ·intro q3
        have q3' : 0 < cmpQ (sideQ B 1 S.b - sideQ B 1 S.a) 0 := by
         subst hE
         simp [Env.std] at q3
         rw [ev1] at q3; exact q3
        cbv
        refine cmp_c hP hE (by assumption) (by assumption) (by omega) ?_
        intro v2 ev2
        cbv
        refine fork.mk ?_ ?_
        ·intro q4
         have hn := hnx _ _ (clip1_low q1' q3' (by
          subst hE
          simp [Env.std] at q4
          rw [ev2, hw1] at q4; exact q4))
         rw [<- hw1] at hn
         cbv
         refine ⟨((t1, hi), (w1, y)), [], ⟨by decide, ht1, hhi, hn⟩, St.le0 ?_ ?_ ?_ ?_ ?_⟩ <;> cbv
         all_goals (simp only [and_self])
        ·intro q4
         have q4' : ¬ 0 < cmpQ (-sideQ B 1 S.a / (sideQ B 1 S.b - sideQ B 1 S.a)) x := by
          subst hE
          simp [Env.std] at q4
          rw [ev2, hw1] at q4; exact fun h => absurd (Int.lt_of_lt_of_le h q4) (Int.lt_irrefl _)
         have hn := hnx _ _ (clip1_same (lh := (x, y)) q1' (fun h => q4' h.2) (fun h => by have := h.1; omega))
         cbv
         refine sign_c hP hE (by assumption) (by omega) ?_
         intro v3 ev3
         cbv
         refine fork.mk ?_ ?_
         ·intro q5
          exfalso
          subst hE
          simp [Env.std] at q5
          rw [ev3] at q5
          have q5 : cmpQ (sideQ B 1 S.b - sideQ B 1 S.a) 0 < 0 := q5
          omega
         ·intro q5
          cbv
          refine ⟨((lo, hi), (x, y)), [], ⟨by decide, hlo, hhi, hn⟩, St.le0 ?_ ?_ ?_ ?_ ?_⟩ <;> cbv
          all_goals (simp only [and_self])
       ·intro q3
        have q3' : ¬ 0 < cmpQ (sideQ B 1 S.b - sideQ B 1 S.a) 0 := by
         subst hE
         simp [Env.std] at q3
         rw [ev1] at q3
         exact fun h => absurd (Int.lt_of_lt_of_le h q3) (Int.lt_irrefl _)
        cbv
        refine sign_c hP hE (by assumption) (by omega) ?_
        intro v3 ev3
        cbv
        refine fork.mk ?_ ?_
        ·intro q5
         have q5' : cmpQ (sideQ B 1 S.b - sideQ B 1 S.a) 0 < 0 := by
          subst hE
          simp [Env.std] at q5
          rw [ev3] at q5; exact q5
         cbv
         refine cmp_c hP hE (by assumption) (by assumption) (by omega) ?_
         intro v4 ev4
         cbv
         refine fork.mk ?_ ?_
         ·intro q6
          have hn := hnx _ _ (clip1_high q1' (fun h => q3' h.1) q5' (by
           subst hE
           simp [Env.std] at q6
           rw [ev4, hw1] at q6; exact q6))
          rw [<- hw1] at hn
          cbv
          refine ⟨((lo, t1), (x, w1)), [], ⟨by decide, hlo, ht1, hn⟩, St.le0 ?_ ?_ ?_ ?_ ?_⟩ <;> cbv
          all_goals (simp only [and_self])
         ·intro q6
          have hn := hnx _ _ (clip1_same (lh := (x, y)) q1' (fun h => q3' h.1) (fun h => by
           subst hE
           simp [Env.std] at q6
           rw [ev4, hw1] at q6
           exact absurd (Int.lt_of_lt_of_le h.2 q6) (Int.lt_irrefl _)))
          cbv
          refine ⟨((lo, hi), (x, y)), [], ⟨by decide, hlo, hhi, hn⟩, St.le0 ?_ ?_ ?_ ?_ ?_⟩ <;> cbv
          all_goals (simp only [and_self])
        ·intro q5
         have hn := hnx _ _ (clip1_same (lh := (x, y)) q1' (fun h => q3' h.1) (fun h => by
          subst hE
          simp [Env.std] at q5
          rw [ev3] at q5
          exact absurd (Int.lt_of_lt_of_le h.1 q5) (Int.lt_irrefl _)))
         cbv
         refine ⟨((lo, hi), (x, y)), [], ⟨by decide, hlo, hhi, hn⟩, St.le0 ?_ ?_ ?_ ?_ ?_⟩ <;> cbv
         all_goals (simp only [and_self])
    ·rintro ⟨⟨lo, hi⟩, ⟨x, y⟩⟩ hI
     have hst := clipL_step (i := 2) (l := [3]) hI.eq
     have hlo : Is (6 * k + 4) lo x := hI.lo
     have hhi : Is (6 * k + 4) hi y := hI.hi
     have hnx : ∀ x' y', clip1 (sideQ B 2 S.a) (sideQ B 2 S.b) (x, y) = some (x', y') -> clipL S B [3] (x', y') = res := fun x' y' h => by rw [h] at hst; exact hst
     have hno : clip1 (sideQ B 2 S.a) (sideQ B 2 S.b) (x, y) = none -> res = none := fun h => by rw [h] at hst; exact hst.symm
     clear hI hst
     cbv
     refine DrawTo.byU [(11, .p 9 0), (12, .p 10 0)] [.cells f2.av 23, .cells g2.av 23] ?_ ?_
     ·cbv
      repeat' first
       | exact True.intro
       | (refine Both.mk ?_ ?_ <;> cbv)
       | (refine CallTo.w hP hE kf2 ⟨rfl, rfl, trivial⟩ ?_; cbv)
       | (refine CallTo.w hP hE kg2 ⟨rfl, rfl, trivial⟩ ?_; cbv)
       | (simp only [and_self]; done)
     cbv
     refine CallTo.w hP hE kd2 ⟨rfl, rfl, trivial⟩ ?_
     cbv
     refine DrawTo.byU [(14, .p 12 0), (15, .v (.int .i64 m2))] [.cells t2.av 23] ?_ ?_
     ·cbv
      repeat' first
       | exact True.intro
       | (refine Both.mk ?_ ?_ <;> cbv)
       | (refine CallTo.w hP hE kn2 ⟨rfl, trivial⟩ ?_; cbv)
       | (refine CallTo.w hP hE kt2 ⟨rfl, rfl, trivial⟩ ?_; cbv)
       | (simp only [and_self]; done)
     cbv
     refine fork.mk ?_ ?_
     ·intro q1
      have q1' : dvE (sideQ B 2 S.b - sideQ B 2 S.a) ≠ 0 := by
       subst hE
       simp [Env.std] at q1
       rw [em2] at q1; exact q1
      cbv
      refine sign_c hP hE (by assumption) (by omega) ?_
      intro v1 ev1
      cbv
      refine fork.mk ?_ ?_
      ·intro q2
       cbv
       subst hE
       simp [Env.std] at q2
       have hr0 := hno (clip1_out q1' (by rw [ev1] at q2; exact q2))
       rw [e0, e1, e2, hr0]
       show _ = Value.tuple #[(crS Sq.zero).v, .bool false, _]
       rw [crS_zero]
      ·intro q2
       have hn := hnx _ _ (clip1_in q1' (by
        subst hE
        simp [Env.std] at q2
        rw [ev1] at q2; exact fun h => absurd (Int.lt_of_lt_of_le h q2) (Int.lt_irrefl _)))
       cbv
       refine fork.mk ?_ ?_
       ·intro q3
        cbv
        refine ⟨((lo, hi), (x, y)), [], ⟨by decide, hlo, hhi, hn⟩, St.le0 ?_ ?_ ?_ ?_ ?_⟩ <;> cbv
        all_goals (simp only [and_self])
       ·intro q3
        exfalso
        subst hE
        simp [Env.std] at q1 q3
        exact q1 q3
     ·intro q1
      have q1' : dvE (sideQ B 2 S.b - sideQ B 2 S.a) = 0 := by
       subst hE
       simp [Env.std] at q1
       rw [em2] at q1; exact q1
      cbv
      refine fork.mk ?_ ?_
      ·intro q2
       exfalso
       subst hE
       simp [Env.std] at q1 q2
       exact q2 q1
      ·intro q2
       cbv
       refine sign_c hP hE (by assumption) (by omega) ?_
       intro v1 ev1
       cbv
       refine fork.mk ?_ ?_
       ·intro q3
        have q3' : 0 < cmpQ (sideQ B 2 S.b - sideQ B 2 S.a) 0 := by
         subst hE
         simp [Env.std] at q3
         rw [ev1] at q3; exact q3
        cbv
        refine cmp_c hP hE (by assumption) (by assumption) (by omega) ?_
        intro v2 ev2
        cbv
        refine fork.mk ?_ ?_
        ·intro q4
         have hn := hnx _ _ (clip1_low q1' q3' (by
          subst hE
          simp [Env.std] at q4
          rw [ev2, hw2] at q4; exact q4))
         rw [<- hw2] at hn
         cbv
         refine ⟨((t2, hi), (w2, y)), [], ⟨by decide, ht2, hhi, hn⟩, St.le0 ?_ ?_ ?_ ?_ ?_⟩ <;> cbv
         all_goals (simp only [and_self])
        ·intro q4
         have q4' : ¬ 0 < cmpQ (-sideQ B 2 S.a / (sideQ B 2 S.b - sideQ B 2 S.a)) x := by
          subst hE
          simp [Env.std] at q4
          rw [ev2, hw2] at q4; exact fun h => absurd (Int.lt_of_lt_of_le h q4) (Int.lt_irrefl _)
         have hn := hnx _ _ (clip1_same (lh := (x, y)) q1' (fun h => q4' h.2) (fun h => by have := h.1; omega))
         cbv
         refine sign_c hP hE (by assumption) (by omega) ?_
         intro v3 ev3
         cbv
         refine fork.mk ?_ ?_
         ·intro q5
          exfalso
          subst hE
          simp [Env.std] at q5
          rw [ev3] at q5
          have q5 : cmpQ (sideQ B 2 S.b - sideQ B 2 S.a) 0 < 0 := q5
          omega
         ·intro q5
          cbv
          refine ⟨((lo, hi), (x, y)), [], ⟨by decide, hlo, hhi, hn⟩, St.le0 ?_ ?_ ?_ ?_ ?_⟩ <;> cbv
          all_goals (simp only [and_self])
       ·intro q3
        have q3' : ¬ 0 < cmpQ (sideQ B 2 S.b - sideQ B 2 S.a) 0 := by
         subst hE
         simp [Env.std] at q3
         rw [ev1] at q3
         exact fun h => absurd (Int.lt_of_lt_of_le h q3) (Int.lt_irrefl _)
        cbv
        refine sign_c hP hE (by assumption) (by omega) ?_
        intro v3 ev3
        cbv
        refine fork.mk ?_ ?_
        ·intro q5
         have q5' : cmpQ (sideQ B 2 S.b - sideQ B 2 S.a) 0 < 0 := by
          subst hE
          simp [Env.std] at q5
          rw [ev3] at q5; exact q5
         cbv
         refine cmp_c hP hE (by assumption) (by assumption) (by omega) ?_
         intro v4 ev4
         cbv
         refine fork.mk ?_ ?_
         ·intro q6
          have hn := hnx _ _ (clip1_high q1' (fun h => q3' h.1) q5' (by
           subst hE
           simp [Env.std] at q6
           rw [ev4, hw2] at q6; exact q6))
          rw [<- hw2] at hn
          cbv
          refine ⟨((lo, t2), (x, w2)), [], ⟨by decide, hlo, ht2, hn⟩, St.le0 ?_ ?_ ?_ ?_ ?_⟩ <;> cbv
          all_goals (simp only [and_self])
         ·intro q6
          have hn := hnx _ _ (clip1_same (lh := (x, y)) q1' (fun h => q3' h.1) (fun h => by
           subst hE
           simp [Env.std] at q6
           rw [ev4, hw2] at q6
           exact absurd (Int.lt_of_lt_of_le h.2 q6) (Int.lt_irrefl _)))
          cbv
          refine ⟨((lo, hi), (x, y)), [], ⟨by decide, hlo, hhi, hn⟩, St.le0 ?_ ?_ ?_ ?_ ?_⟩ <;> cbv
          all_goals (simp only [and_self])
        ·intro q5
         have hn := hnx _ _ (clip1_same (lh := (x, y)) q1' (fun h => q3' h.1) (fun h => by
          subst hE
          simp [Env.std] at q5
          rw [ev3] at q5
          exact absurd (Int.lt_of_lt_of_le h.1 q5) (Int.lt_irrefl _)))
         cbv
         refine ⟨((lo, hi), (x, y)), [], ⟨by decide, hlo, hhi, hn⟩, St.le0 ?_ ?_ ?_ ?_ ?_⟩ <;> cbv
         all_goals (simp only [and_self])
    ·rintro ⟨⟨lo, hi⟩, ⟨x, y⟩⟩ hI
     have hst := clipL_step (i := 3) (l := []) hI.eq
     have hlo : Is (6 * k + 4) lo x := hI.lo
     have hhi : Is (6 * k + 4) hi y := hI.hi
     have hnx : ∀ x' y', clip1 (sideQ B 3 S.a) (sideQ B 3 S.b) (x, y) = some (x', y') -> clipL S B [] (x', y') = res := fun x' y' h => by rw [h] at hst; exact hst
     have hno : clip1 (sideQ B 3 S.a) (sideQ B 3 S.b) (x, y) = none -> res = none := fun h => by rw [h] at hst; exact hst.symm
     clear hI hst
     cbv
     refine DrawTo.byU [(11, .p 9 0), (12, .p 10 0)] [.cells f3.av 23, .cells g3.av 23] ?_ ?_
     ·cbv
      repeat' first
       | exact True.intro
       | (refine Both.mk ?_ ?_ <;> cbv)
       | (refine CallTo.w hP hE kf3 ⟨rfl, rfl, trivial⟩ ?_; cbv)
       | (refine CallTo.w hP hE kg3 ⟨rfl, rfl, trivial⟩ ?_; cbv)
       | (simp only [and_self]; done)
     cbv
     refine CallTo.w hP hE kd3 ⟨rfl, rfl, trivial⟩ ?_
     cbv
     refine DrawTo.byU [(14, .p 12 0), (15, .v (.int .i64 m3))] [.cells t3.av 23] ?_ ?_
     ·cbv
      repeat' first
       | exact True.intro
       | (refine Both.mk ?_ ?_ <;> cbv)
       | (refine CallTo.w hP hE kn3 ⟨rfl, trivial⟩ ?_; cbv)
       | (refine CallTo.w hP hE kt3 ⟨rfl, rfl, trivial⟩ ?_; cbv)
       | (simp only [and_self]; done)
     cbv
     refine fork.mk ?_ ?_
     ·intro q1
      have q1' : dvE (sideQ B 3 S.b - sideQ B 3 S.a) ≠ 0 := by
       subst hE
       simp [Env.std] at q1
       rw [em3] at q1; exact q1
      cbv
      refine sign_c hP hE (by assumption) (by omega) ?_
      intro v1 ev1
      cbv
      refine fork.mk ?_ ?_
      ·intro q2
       cbv
       subst hE
       simp [Env.std] at q2
       have hr0 := hno (clip1_out q1' (by rw [ev1] at q2; exact q2))
       rw [e0, e1, e2, hr0]
       show _ = Value.tuple #[(crS Sq.zero).v, .bool false, _]
       rw [crS_zero]
      ·intro q2
       have hn := hnx _ _ (clip1_in q1' (by
        subst hE
        simp [Env.std] at q2
        rw [ev1] at q2; exact fun h => absurd (Int.lt_of_lt_of_le h q2) (Int.lt_irrefl _)))
       cbv
       refine fork.mk ?_ ?_
       ·intro q3
        cbv
        refine ⟨((lo, hi), (x, y)), [], ⟨by decide, hlo, hhi, hn⟩, St.le0 ?_ ?_ ?_ ?_ ?_⟩ <;> cbv
        all_goals (simp only [and_self])
       ·intro q3
        exfalso
        subst hE
        simp [Env.std] at q1 q3
        exact q1 q3
     ·intro q1
      have q1' : dvE (sideQ B 3 S.b - sideQ B 3 S.a) = 0 := by
       subst hE
       simp [Env.std] at q1
       rw [em3] at q1; exact q1
      cbv
      refine fork.mk ?_ ?_
      ·intro q2
       exfalso
       subst hE
       simp [Env.std] at q1 q2
       exact q2 q1
      ·intro q2
       cbv
       refine sign_c hP hE (by assumption) (by omega) ?_
       intro v1 ev1
       cbv
       refine fork.mk ?_ ?_
       ·intro q3
        have q3' : 0 < cmpQ (sideQ B 3 S.b - sideQ B 3 S.a) 0 := by
         subst hE
         simp [Env.std] at q3
         rw [ev1] at q3; exact q3
        cbv
        refine cmp_c hP hE (by assumption) (by assumption) (by omega) ?_
        intro v2 ev2
        cbv
        refine fork.mk ?_ ?_
        ·intro q4
         have hn := hnx _ _ (clip1_low q1' q3' (by
          subst hE
          simp [Env.std] at q4
          rw [ev2, hw3] at q4; exact q4))
         rw [<- hw3] at hn
         cbv
         refine ⟨((t3, hi), (w3, y)), [], ⟨by decide, ht3, hhi, hn⟩, St.le0 ?_ ?_ ?_ ?_ ?_⟩ <;> cbv
         all_goals (simp only [and_self])
        ·intro q4
         have q4' : ¬ 0 < cmpQ (-sideQ B 3 S.a / (sideQ B 3 S.b - sideQ B 3 S.a)) x := by
          subst hE
          simp [Env.std] at q4
          rw [ev2, hw3] at q4; exact fun h => absurd (Int.lt_of_lt_of_le h q4) (Int.lt_irrefl _)
         have hn := hnx _ _ (clip1_same (lh := (x, y)) q1' (fun h => q4' h.2) (fun h => by have := h.1; omega))
         cbv
         refine sign_c hP hE (by assumption) (by omega) ?_
         intro v3 ev3
         cbv
         refine fork.mk ?_ ?_
         ·intro q5
          exfalso
          subst hE
          simp [Env.std] at q5
          rw [ev3] at q5
          have q5 : cmpQ (sideQ B 3 S.b - sideQ B 3 S.a) 0 < 0 := q5
          omega
         ·intro q5
          cbv
          refine ⟨((lo, hi), (x, y)), [], ⟨by decide, hlo, hhi, hn⟩, St.le0 ?_ ?_ ?_ ?_ ?_⟩ <;> cbv
          all_goals (simp only [and_self])
       ·intro q3
        have q3' : ¬ 0 < cmpQ (sideQ B 3 S.b - sideQ B 3 S.a) 0 := by
         subst hE
         simp [Env.std] at q3
         rw [ev1] at q3
         exact fun h => absurd (Int.lt_of_lt_of_le h q3) (Int.lt_irrefl _)
        cbv
        refine sign_c hP hE (by assumption) (by omega) ?_
        intro v3 ev3
        cbv
        refine fork.mk ?_ ?_
        ·intro q5
         have q5' : cmpQ (sideQ B 3 S.b - sideQ B 3 S.a) 0 < 0 := by
          subst hE
          simp [Env.std] at q5
          rw [ev3] at q5; exact q5
         cbv
         refine cmp_c hP hE (by assumption) (by assumption) (by omega) ?_
         intro v4 ev4
         cbv
         refine fork.mk ?_ ?_
         ·intro q6
          have hn := hnx _ _ (clip1_high q1' (fun h => q3' h.1) q5' (by
           subst hE
           simp [Env.std] at q6
           rw [ev4, hw3] at q6; exact q6))
          rw [<- hw3] at hn
          cbv
          refine ⟨((lo, t3), (x, w3)), [], ⟨by decide, hlo, ht3, hn⟩, St.le0 ?_ ?_ ?_ ?_ ?_⟩ <;> cbv
          all_goals (simp only [and_self])
         ·intro q6
          have hn := hnx _ _ (clip1_same (lh := (x, y)) q1' (fun h => q3' h.1) (fun h => by
           subst hE
           simp [Env.std] at q6
           rw [ev4, hw3] at q6
           exact absurd (Int.lt_of_lt_of_le h.2 q6) (Int.lt_irrefl _)))
          cbv
          refine ⟨((lo, hi), (x, y)), [], ⟨by decide, hlo, hhi, hn⟩, St.le0 ?_ ?_ ?_ ?_ ?_⟩ <;> cbv
          all_goals (simp only [and_self])
        ·intro q5
         have hn := hnx _ _ (clip1_same (lh := (x, y)) q1' (fun h => q3' h.1) (fun h => by
          subst hE
          simp [Env.std] at q5
          rw [ev3] at q5
          exact absurd (Int.lt_of_lt_of_le h.1 q5) (Int.lt_irrefl _)))
         cbv
         refine ⟨((lo, hi), (x, y)), [], ⟨by decide, hlo, hhi, hn⟩, St.le0 ?_ ?_ ?_ ?_ ?_⟩ <;> cbv
         all_goals (simp only [and_self])
    ·rintro ⟨⟨lo, hi⟩, ⟨x, y⟩⟩ hI
     have hlo : Is (6 * k + 4) lo x := hI.lo
     have hhi : Is (6 * k + 4) hi y := hI.hi
     have hres2 : some (x, y) = res := hI.eq
     rw [<- hres2] at e0 e1
     clear hI
     cbv
     refine cmp_c hP hE (by assumption) (by assumption) (by omega) ?_
     intro v1 ev1
     cbv
     refine fork.mk ?_ ?_
     ·intro q1
      cbv
      subst hE
      simp [Env.std] at q1
      have hk : clipK S (some (x, y)) = none := by rw [clipK, if_pos (by rw [ev1] at q1; exact q1)]
      rw [e0, e1, e2, hk]
      show _ = Value.tuple #[(crS Sq.zero).v, .bool false, _]
      rw [crS_zero]
     ·intro q1
      cbv
      refine vat_c hP hE (by assumption) (by assumption) (by assumption) (by omega) ?_
      intro p1 ep1 hp1 hp1x hp1y
      cbv
      refine vat_c hP hE (by assumption) (by assumption) (by assumption) (by omega) ?_
      intro p2 ep2 hp2 hp2x hp2y
      cbv
      subst hE
      simp [Env.std] at q1
      have hk : clipK S (some (x, y)) = some ⟨S.a.at S.b x, S.a.at S.b y⟩ := by rw [clipK, if_neg (by rw [ev1] at q1; exact fun h => absurd (Int.lt_of_lt_of_le h q1) (Int.lt_irrefl _))]
      rw [e0, e1, e2, hk, ep1, ep2]
      rfl
theorem clip_p {a : Sg} {S : Sq} {k : Nat} {b : Bx} {B : Bq} (ha : IsS k a S) (hb : IsB k b B) (h : 40 * k + 40 <= 134217728) : ∃ (r0 : Sg) (r1 : Bool) (r2 : Int), r0 = crS ((clipR S B).getD Sq.zero) /\ IsS (20 * k + 20) r0 ((clipR S B).getD Sq.zero) /\ r1 = (clipR S B).isSome /\ r2 = clipE S B /\ Con Tryz.prog 40 [.v a.v, .v b.v] (.v (.tuple #[r0.v, .bool r1, .int .i64 r2])) := ⟨_, _, _, rfl, (ha.bd.clip hb.bd).is, rfl, rfl, clip_q ha hb h⟩
end Go.Proofs.YtfdealobplcboaaGreat.Sx
