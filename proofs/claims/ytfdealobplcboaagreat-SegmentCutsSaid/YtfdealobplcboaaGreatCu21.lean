/- Part 21 of what the statement needs: an executor of Go texts, arithmetic, and contracts of the functions that are called. -/
import Derived.Test.YtfdealobplcboaaGreatCu13
import Derived.Test.YtfdealobplcboaaGreatCu20
set_option linter.unusedVariables false
set_option linter.unusedSimpArgs false
set_option maxRecDepth 100000
set_option maxHeartbeats 8000000
namespace Go.Proofs.YtfdealobplcboaaGreat.Sx
theorem lt8 {m : ByteArray} {b : Bool} {E : Env} (hE : E = Env.std) (h : E.ic .lss (E.sz m) 8 = b) : b = decide (m.size < 8) := by
 subst hE
 rw [<- h]
 refine decide_eq_decide.2 ?_
 rw [s_sz]; omega
theorem radd_con (na nb : Bool) (ma mb : ByteArray) (ha : ma.size <= 1073741824) (hb : mb.size <= 1073741824) : Con Tryz.prog 210 [.v (zR na ma), .v (zR nb mb)] (.v (zV (zval na ma + zval nb mb))) := by
 have hca := rcanon_con na ma (by omega)
 have hcb := rcanon_con nb mb (by omega)
 obtain ⟨z, hz⟩ : ∃ z, z = zval na ma := ⟨_, rfl⟩
 obtain ⟨w, hw⟩ : ∃ w, w = zval nb mb := ⟨_, rfl⟩
 obtain ⟨sa, xa, za⟩ := Zp.ex (zval na ma)
 obtain ⟨sb, xb, zb⟩ := Zp.ex (zval nb mb)
 obtain ⟨sr, xr, zr⟩ := Zp.ex (zval na ma + zval nb mb)
 have qa := za.size
 have qb := zb.size
 rw [za.v] at hca
 rw [zb.v] at hcb
 rw [zr.v]
 rw [<- hz] at za zr
 rw [<- hw] at zb zr
 have hsmall : xa.size < 8 -> xb.size < 8 -> Con Tryz.prog 219 [.v (.agg #[.bool sa, .string xa])] (.v (.int .i64 z)) /\ Con Tryz.prog 219 [.v (.agg #[.bool sb, .string xb])] (.v (.int .i64 w)) /\ Con Tryz.prog 198 [.v (.int .i64 (z + w))] (.v (.agg #[.bool sr, .string xr])) /\ Env.std.ib .add .i64 z w = z + w := by
  intro h1 h2
  have v1 := rvalue_con sa xa (by omega)
  have v2 := rvalue_con sb xb (by omega)
  have b1 := zval_small sa xa (by omega)
  have b2 := zval_small sb xb (by omega)
  rw [za.zval] at v1 b1
  rw [zb.zval] at v2 b2
  have v3 := rof_con (z + w) (by omega) (by omega)
  rw [zr.v] at v3
  exact ⟨v1, v2, v3, by rw [s_add, w64 (by omega) (by omega)]⟩
 have hadd := addMag_con xa xb (by omega) (by omega)
 rw [za.bv, zb.bv] at hadd
 obtain ⟨x1, hx1⟩ : ∃ x, x = mg (z.natAbs + w.natAbs) := ⟨_, rfl⟩
 rw [<- hx1] at hadd
 have r1 : sa = sb -> sr = sa /\ xr = x1 := by
  intro e
  have e1 := za.s; have e2 := zb.s; have e3 := zr.s
  rw [<- e, e1] at e2
  have e2 := decide_eq_decide.1 e2
  refine ⟨?_, ?_⟩
  ·rw [e3, e1]; refine decide_eq_decide.2 ?_; omega
  ·rw [zr.m, hx1]; congr 1; omega
 have hcmp := cmpM_con z.natAbs w.natAbs (by rw [<- za.m]; omega) (by rw [<- zb.m]; omega)
 rw [<- za.m, <- zb.m] at hcmp
 obtain ⟨c, hc⟩ : ∃ c, c = cmpI (z.natAbs : Int) (w.natAbs : Int) := ⟨_, rfl⟩
 rw [<- hc] at hcmp
 have hopp : sa ≠ sb -> ((z < 0 /\ 0 <= w) \/ (0 <= z /\ w < 0)) := by
  intro e
  have e1 := za.s; have e2 := zb.s
  rw [e1, e2] at e
  have : ¬ (z < 0 ↔ w < 0) := fun h => e (decide_eq_decide.2 h)
  omega
 have r2 : sa ≠ sb -> c = 0 -> sr = false /\ xr = ⟨⟨[]⟩⟩ := by
  intro e h
  have ho := hopp e
  have h0 : z.natAbs = w.natAbs := by
   rw [hc, cmpI] at h
   split at h
   ·omega
   ·split at h <;> omega
  have h1 : z + w = 0 := by omega
  exact ⟨by rw [zr.s, h1]; rfl, zr.nil.2 h1⟩
 have r3 : sa ≠ sb -> c > 0 -> sr = sa /\ xr = mg (z.natAbs - w.natAbs) /\ w.natAbs <= z.natAbs := by
  intro e h
  have ho := hopp e
  have h0 : z.natAbs > w.natAbs := by
   rw [hc, cmpI] at h
   split at h
   ·omega
   ·split at h <;> omega
  refine ⟨?_, ?_, by omega⟩
  ·rw [zr.s, za.s]; refine decide_eq_decide.2 ?_; omega
  ·rw [zr.m]; congr 1; omega
 have r4 : sa ≠ sb -> ¬ c = 0 -> ¬ c > 0 -> sr = sb /\ xr = mg (w.natAbs - z.natAbs) /\ z.natAbs <= w.natAbs := by
  intro e h h'
  have ho := hopp e
  have h0 : z.natAbs < w.natAbs := by
   refine Decidable.byContradiction fun k => ?_
   rw [cmpI, if_neg (by omega)] at hc
   by_cases e : (z.natAbs : Int) > w.natAbs
   ·rw [if_pos e] at hc; omega
   ·rw [if_neg e] at hc; omega
  refine ⟨?_, ?_, by omega⟩
  ·rw [zr.s, zb.s]; refine decide_eq_decide.2 ?_; omega
  ·rw [zr.m]; congr 1; omega
 have hs1 := fun h => subMag_con xa xb (by omega) (by omega) h
 have hs2 := fun h => subMag_con xb xa (by omega) (by omega) h
 rw [za.bv, zb.bv] at hs1 hs2
 clear hc za zb zr hx1 qa qb hz hw hopp
 unfold zR at hca hcb ⊢
 refine Con.of ttOk mixed Tryz.func210 { ord := [(1, [0, 2, 1, 3, 4, 5]), (3, [0, 2, 1, 3, 4, 5, 6]), (5, [0, 1, 2, 3, 4, 5, 6, 7, 8]), (10, [0, 1, 2, 3, 4, 5, 6, 7, 8]), (11, [0, 1, 2, 3, 4, 5, 6, 7, 8])] } .nil 0 (by kernel_rfl) (fun P' E hP hE => ?_)
 have tail : ∀ K : Prop, K -> K := fun _ h => h
 cbv
 refine CallTo.w hP hE hca ⟨rfl, trivial⟩ ?_
 cbv
 refine CallTo.w hP hE hcb ⟨rfl, trivial⟩ ?_
 cbv
 refine fork.mk ?_ ?_
 ·intro g1
  have g1 : xa.size < 8 := of_decide_eq_true (lt8 hE g1).symm
  cbv
  refine fork.mk ?_ ?_
  ·intro g2
   have g2 : xb.size < 8 := of_decide_eq_true (lt8 hE g2).symm
   have hs := hsmall g1 g2
   cbv
   refine CallTo.w hP hE hs.1 ⟨rfl, trivial⟩ ?_
   cbv
   refine CallTo.w hP hE hs.2.1 ⟨rfl, trivial⟩ ?_
   cbv
   refine CallTo.con hP hE hs.2.2.1 (by subst hE; exact ⟨congrArg (Value.int .i64) hs.2.2.2, trivial⟩) ?_
   cbv
  ·intro g2
   cbv
   refine fork.mk ?_ ?_
   ·intro g3
    have g3 : sa = sb := by subst hE; exact beq_iff_eq.1 (show (sa == sb) = true from g3)
    have r1 := r1 g3
    cbv
    refine CallTo.w hP hE hadd ⟨rfl, rfl, trivial⟩ ?_
    cbv
    rw [r1.1, r1.2]
   ·intro g3
    have g3 : sa ≠ sb := by subst hE; exact beq_eq_false_iff_ne.1 (show (sa == sb) = false from g3)
    have r2 := r2 g3
    have r3 := r3 g3
    have r4 := r4 g3
    cbv
    refine CallTo.w hP hE hcmp ⟨rfl, rfl, trivial⟩ ?_
    cbv
    refine fork.mk ?_ ?_
    ·intro g4
     have g4 : c = 0 := by subst hE; exact of_decide_eq_true (show decide (c = 0) = true from g4)
     have r2 := r2 g4
     cbv
     rw [r2.1, r2.2]
    ·intro g4
     have g4 : ¬ c = 0 := by subst hE; exact of_decide_eq_false (show decide (c = 0) = false from g4)
     cbv
     refine fork.mk ?_ ?_
     ·intro g5
      have g5 : c > 0 := by subst hE; exact of_decide_eq_true (show decide (c > 0) = true from g5)
      have r3 := r3 g5
      have hs1 := hs1 r3.2.2
      rw [<- r3.2.1] at hs1
      cbv
      refine CallTo.w hP hE hs1 ⟨rfl, rfl, trivial⟩ ?_
      cbv
      rw [r3.1]
     ·intro g5
      have g5 : ¬ c > 0 := by subst hE; exact of_decide_eq_false (show decide (c > 0) = false from g5)
      have r4 := r4 g4 g5
      have hs2 := hs2 r4.2.2
      rw [<- r4.2.1] at hs2
      cbv
      refine CallTo.w hP hE hs2 ⟨rfl, rfl, trivial⟩ ?_
      cbv
      rw [r4.1]
 ·intro g1
  cbv
  refine fork.mk ?_ ?_
  ·intro g3
   have g3 : sa = sb := by subst hE; exact beq_iff_eq.1 (show (sa == sb) = true from g3)
   have r1 := r1 g3
   cbv
   refine CallTo.w hP hE hadd ⟨rfl, rfl, trivial⟩ ?_
   cbv
   rw [r1.1, r1.2]
  ·intro g3
   have g3 : sa ≠ sb := by subst hE; exact beq_eq_false_iff_ne.1 (show (sa == sb) = false from g3)
   have r2 := r2 g3
   have r3 := r3 g3
   have r4 := r4 g3
   cbv
   refine CallTo.w hP hE hcmp ⟨rfl, rfl, trivial⟩ ?_
   cbv
   refine fork.mk ?_ ?_
   ·intro g4
    have g4 : c = 0 := by subst hE; exact of_decide_eq_true (show decide (c = 0) = true from g4)
    have r2 := r2 g4
    cbv
    rw [r2.1, r2.2]
   ·intro g4
    have g4 : ¬ c = 0 := by subst hE; exact of_decide_eq_false (show decide (c = 0) = false from g4)
    cbv
    refine fork.mk ?_ ?_
    ·intro g5
     have g5 : c > 0 := by subst hE; exact of_decide_eq_true (show decide (c > 0) = true from g5)
     have r3 := r3 g5
     have hs1 := hs1 r3.2.2
     rw [<- r3.2.1] at hs1
     cbv
     refine CallTo.w hP hE hs1 ⟨rfl, rfl, trivial⟩ ?_
     cbv
     rw [r3.1]
    ·intro g5
     have g5 : ¬ c > 0 := by subst hE; exact of_decide_eq_false (show decide (c > 0) = false from g5)
     have r4 := r4 g4 g5
     have hs2 := hs2 r4.2.2
     rw [<- r4.2.1] at hs2
     cbv
     refine CallTo.w hP hE hs2 ⟨rfl, rfl, trivial⟩ ?_
     cbv
     rw [r4.1]
theorem rmul_con (na nb : Bool) (ma mb : ByteArray) (ha : ma.size <= 1073741824) (hb : mb.size <= 1073741824) : Con Tryz.prog 195 [.v (zR na ma), .v (zR nb mb)] (.v (zV (zval na ma * zval nb mb))) := by
 have hca := rcanon_con na ma (by omega)
 have hcb := rcanon_con nb mb (by omega)
 obtain ⟨z, hz⟩ : ∃ z, z = zval na ma := ⟨_, rfl⟩
 obtain ⟨w, hw⟩ : ∃ w, w = zval nb mb := ⟨_, rfl⟩
 obtain ⟨sa, xa, za⟩ := Zp.ex (zval na ma)
 obtain ⟨sb, xb, zb⟩ := Zp.ex (zval nb mb)
 obtain ⟨sr, xr, zr⟩ := Zp.ex (zval na ma * zval nb mb)
 have qa := za.size
 have qb := zb.size
 rw [za.v] at hca
 rw [zb.v] at hcb
 rw [zr.v]
 rw [<- hz] at za
 rw [<- hw] at zb
 rw [<- hz, <- hw] at zr
 have hzero : xa = ⟨⟨[]⟩⟩ \/ xb = ⟨⟨[]⟩⟩ -> sr = false /\ xr = ⟨⟨[]⟩⟩ := by
  intro h
  have h1 : z * w = 0 := by
   rcases h with h | h
   ·rw [za.nil.1 h]; simp
   ·rw [zb.nil.1 h]; simp
  exact ⟨by rw [zr.s, h1]; rfl, zr.nil.2 h1⟩
 have hsmall : Env.std.ic .lss (Env.std.ib .add .i64 (Env.std.sz xa) (Env.std.sz xb)) 8 = true -> Con Tryz.prog 219 [.v (.agg #[.bool sa, .string xa])] (.v (.int .i64 z)) /\ Con Tryz.prog 219 [.v (.agg #[.bool sb, .string xb])] (.v (.int .i64 w)) /\ Con Tryz.prog 198 [.v (.int .i64 (z * w))] (.v (.agg #[.bool sr, .string xr])) /\ Env.std.ib .mul .i64 z w = z * w := by
  intro h
  rw [s_add, s_sz, s_sz, w64 (by omega) (by omega), s_lss] at h
  have h := of_decide_eq_true h
  have v1 := rvalue_con sa xa (by omega)
  have v2 := rvalue_con sb xb (by omega)
  rw [za.zval] at v1
  rw [zb.zval] at v2
  have hn : (z * w).natAbs < 72057594037927936 := by
   have h1 := bv_lt xa
   have h2 := bv_lt xb
   rw [za.bv] at h1
   rw [zb.bv] at h2
   rw [Int.natAbs_mul]
   have h3 := Nat.mul_lt_mul'' h1 h2
   rw [<- Nat.pow_add] at h3
   have h4 := pow256_mono (show xa.size + xb.size <= 7 by omega)
   have h5 : (256 : Nat) ^ 7 = 72057594037927936 := by decide
   omega
  have v3 := rof_con (z * w) (by omega) (by omega)
  rw [zr.v] at v3
  exact ⟨v1, v2, v3, by rw [s_mul, w64 (by omega) (by omega)]⟩
 have hmul := mulMag_con xa xb (by omega) (by omega)
 rw [za.bv, zb.bv, <- Int.natAbs_mul, <- zr.m] at hmul
 have hsign : ¬ xa = ⟨⟨[]⟩⟩ -> ¬ xb = ⟨⟨[]⟩⟩ -> (!(sa == sb)) = sr := by
  intro h1 h2
  have h1 := fun e => h1 (za.nil.2 e)
  have h2 := fun e => h2 (zb.nil.2 e)
  rw [za.s, zb.s, zr.s]
  rcases Int.lt_or_lt_of_ne h1 with c1 | c1 <;> rcases Int.lt_or_lt_of_ne h2 with c2 | c2
  ·have := Int.mul_pos_of_neg_of_neg c1 c2
   simp [c1, c2]; omega
  ·have := Int.mul_neg_of_neg_of_pos c1 c2
   simp [c1, this]; omega
  ·have := Int.mul_neg_of_pos_of_neg c1 c2
   simp [c2, this]; omega
  ·have := Int.mul_pos c1 c2
   have e1 : ¬ z < 0 := by omega
   have e2 : ¬ w < 0 := by omega
   have e3 : ¬ z * w < 0 := by omega
   simp [e1, e2, e3]
 clear za zb zr qa qb hz hw
 have hsq : ∀ m : ByteArray, Env.std.sq m ⟨⟨[]⟩⟩ = decide (m = ⟨⟨[]⟩⟩) := fun m => sq_iff
 unfold zR at hca hcb ⊢
 refine Con.of ttOk mixed Tryz.func195 { ord := [(1, [0, 2, 1, 3, 4, 5]), (5, [0, 2, 1, 3, 4, 5, 6]), (6, [0, 1, 2, 3, 4, 5, 6, 7, 8, 9, 10, 11])] } .nil 0 (by kernel_rfl) (fun P' E hP hE => ?_)
 cbv
 refine CallTo.w hP hE hca ⟨rfl, trivial⟩ ?_
 cbv
 refine CallTo.w hP hE hcb ⟨rfl, trivial⟩ ?_
 cbv
 refine fork.mk ?_ ?_
 ·intro g1
  have g1 : xa = ⟨⟨[]⟩⟩ := by subst hE; exact of_decide_eq_true ((hsq xa).symm.trans g1)
  have hz := hzero (.inl g1)
  cbv
  rw [hz.1, hz.2]
 ·intro g1
  have g1 : ¬ xa = ⟨⟨[]⟩⟩ := by subst hE; exact of_decide_eq_false ((hsq xa).symm.trans g1)
  cbv
  refine fork.mk ?_ ?_
  ·intro g2
   have g2 : xb = ⟨⟨[]⟩⟩ := by subst hE; exact of_decide_eq_true ((hsq xb).symm.trans g2)
   have hz := hzero (.inr g2)
   cbv
   rw [hz.1, hz.2]
  ·intro g2
   have g2 : ¬ xb = ⟨⟨[]⟩⟩ := by subst hE; exact of_decide_eq_false ((hsq xb).symm.trans g2)
   have hsign := hsign g1 g2
   cbv
   refine fork.mk ?_ ?_
   ·intro g3
    have hs := hsmall (by subst hE; exact g3)
    cbv
    refine CallTo.w hP hE hs.1 ⟨rfl, trivial⟩ ?_
    cbv
    refine CallTo.w hP hE hs.2.1 ⟨rfl, trivial⟩ ?_
    cbv
    refine CallTo.con hP hE hs.2.2.1 (by subst hE; exact ⟨congrArg (Value.int .i64) hs.2.2.2, trivial⟩) ?_
    cbv
   ·intro g3
    cbv
    refine CallTo.w hP hE hmul ⟨rfl, rfl, trivial⟩ ?_
    cbv
    subst hE
    exact congrArg (fun b => Value.agg #[.bool b, .string xr]) hsign
end Go.Proofs.YtfdealobplcboaaGreat.Sx

set_option linter.unusedVariables false
set_option linter.unusedSimpArgs false
set_option maxRecDepth 100000
set_option maxHeartbeats 8000000
namespace Go.Proofs.YtfdealobplcboaaGreat.Sx
theorem fork.ya {b : Bool} {x y : Unit -> Prop} (h : b = true) (hx : x ()) : fork b x y := ⟨fun _ => hx, fun e => by rw [h] at e; cases e⟩
theorem fork.na {b : Bool} {x y : Unit -> Prop} (h : b = false) (hy : y ()) : fork b x y := ⟨fun e => (by rw [h] at e; cases e), fun _ => hy⟩
theorem s_sqt (y : ByteArray) (h : y = ⟨⟨[]⟩⟩) : Env.std.sq y ⟨⟨[]⟩⟩ = true := by rw [sq_iff]; exact decide_eq_true h
theorem s_sqf (y : ByteArray) (h : ¬ y = ⟨⟨[]⟩⟩) : Env.std.sq y ⟨⟨[]⟩⟩ = false := by rw [sq_iff]; exact decide_eq_false h
theorem rgcd_con (na nb : Bool) (ma mb : ByteArray) (ha : ma.size <= 536870912) (hb : mb.size <= 536870912) : Con Tryz.prog 222 [.v (zR na ma), .v (zR nb mb)] (.v (zV (Nat.gcd (bv ma) (bv mb) : Nat))) := by
 have t1 := rtrim_con ma (by omega)
 have t2 := rtrim_con mb (by omega)
 obtain ⟨G, hG0⟩ : ∃ G, G = Nat.gcd (bv ma) (bv mb) := ⟨_, rfl⟩
 rw [<- hG0]
 obtain ⟨sr, xr, zr⟩ := Zp.ex (G : Int)
 have hG := zr.v
 rw [hG]
 have hsr : sr = false := by rw [zr.s]; simp
 have hxr : xr = mg G := zr.m
 subst hsr
 obtain ⟨x0, hx0⟩ : ∃ x, x = mg (bv ma) := ⟨_, rfl⟩
 obtain ⟨y0, hy0⟩ : ∃ x, x = mg (bv mb) := ⟨_, rfl⟩
 rw [<- hx0] at t1
 rw [<- hy0] at t2
 have hz : x0 = mg (bv x0) /\ y0 = mg (bv y0) /\ Nat.gcd (bv x0) (bv y0) = G /\ x0.size <= 536870912 /\ y0.size <= 536870912 := by
  rw [hx0, hy0, bv_mg, bv_mg]
  have q1 : (mg (bv ma)).size <= ma.size := mg_size_le (bv_lt ma)
  have q2 : (mg (bv mb)).size <= mb.size := mg_size_le (bv_lt mb)
  exact ⟨rfl, rfl, hG0.symm, by omega, by omega⟩
 clear hx0 hy0 hG0 zr
 unfold zR
 refine Con.of ttOk mixed Tryz.func222 { ord := [(1, [0, 1, 3, 4, 2, 5, 6, 7]), (9, [0, 1, 2, 3, 4, 5])] } .nil 0 (by kernel_rfl) (fun P' E hP hE => ?_)
 cbv
 refine CallTo.w hP hE t1 ⟨rfl, trivial⟩ ?_
 cbv
 refine CallTo.w hP hE t2 ⟨rfl, trivial⟩ ?_
 cbv
 refine LoopTo.by (ι := ByteArray × ByteArray) (fun x => [(5, .v (.string x.1)), (6, .v (.string x.2))]) (fun x => []) (fun x => x.1 = mg (bv x.1) /\ x.2 = mg (bv x.2) /\ Nat.gcd (bv x.1) (bv x.2) = G /\ x.1.size <= 536870912 /\ x.2.size <= 536870912) (fun x => bv x.2) (x0, y0) [] hz ?_ ?_
 ·cbv
  simp only [and_self]
 ·rintro ⟨x, y⟩ hi
  have hi1 : x = mg (bv x) := hi.1
  have hi2 : y = mg (bv y) := hi.2.1
  have hi3 : Nat.gcd (bv x) (bv y) = G := hi.2.2.1
  have hi4 : x.size <= 536870912 := hi.2.2.2.1
  have hi5 : y.size <= 536870912 := hi.2.2.2.2
  clear hi hz
  cbv
  refine fork.mk ?_ ?_
  ·intro gy0
   have gy : ¬ y = ⟨⟨[]⟩⟩ := by subst hE; exact of_decide_eq_true ((s_sqn y _ rfl).symm.trans gy0)
   clear gy0
   cbv
   refine fork.mk ?_ ?_
   ·intro g2
    clear g2
    have hi4 : x.size <= 536870912 := hi4
    have hi5 : y.size <= 536870912 := hi5
    have hy : 0 < bv y := by
     refine Nat.pos_of_ne_zero fun e => ?_
     exact gy (by rw [hi2, e]; exact mg_nil.2 rfl)
    have hd := divMag_con x (bv y) 536870912 (by omega) (by rw [<- hi2]; omega) (Nat.le_refl _) hy
    rw [<- hi2] at hd
    refine exVar (mg (bv x / bv y)) ?_; intro q hq
    refine exVar (mg (bv x % bv y)) ?_; intro r hr
    rw [<- hq, <- hr] at hd
    have hbr : bv r = bv x % bv y := by rw [hr, bv_mg]
    have hlt : bv r < bv y := by rw [hbr]; exact Nat.mod_lt _ hy
    have hrs : r.size <= 536870912 := by
     have : r.size <= y.size := by rw [hr, <- hbr]; exact mg_size_le (Nat.lt_trans hlt (bv_lt y))
     omega
    have hq2 : y = mg (bv y) /\ r = mg (bv r) /\ Nat.gcd (bv y) (bv r) = G /\ y.size <= 536870912 /\ r.size <= 536870912 := by
     refine ⟨hi2, by rw [hbr]; exact hr, ?_, hi5, hrs⟩
     rw [hbr, <- hi3, Nat.gcd_comm (bv y), <- Nat.gcd_rec, Nat.gcd_comm]
    clear hr hq hbr hrs
    cbv
    refine CallTo.w hP hE hd ⟨rfl, rfl, trivial⟩ ?_
    cbv
    refine ⟨(y, r), [], hq2, hlt, ?_⟩
    cbv
    simp only [and_self]
   ·intro g2
    have g2 : ¬ x.size > 7 := by subst hE; have := of_decide_eq_false (show decide ((x.size : Int) > 7) = false from g2); omega
    cbv
    refine fork.mk ?_ ?_
    ·intro g3
     clear g3
     have hi4 : x.size <= 536870912 := hi4
     have hi5 : y.size <= 536870912 := hi5
     have hy : 0 < bv y := by
      refine Nat.pos_of_ne_zero fun e => ?_
      exact gy (by rw [hi2, e]; exact mg_nil.2 rfl)
     have hd := divMag_con x (bv y) 536870912 (by omega) (by rw [<- hi2]; omega) (Nat.le_refl _) hy
     rw [<- hi2] at hd
     refine exVar (mg (bv x / bv y)) ?_; intro q hq
     refine exVar (mg (bv x % bv y)) ?_; intro r hr
     rw [<- hq, <- hr] at hd
     have hbr : bv r = bv x % bv y := by rw [hr, bv_mg]
     have hlt : bv r < bv y := by rw [hbr]; exact Nat.mod_lt _ hy
     have hrs : r.size <= 536870912 := by
      have : r.size <= y.size := by rw [hr, <- hbr]; exact mg_size_le (Nat.lt_trans hlt (bv_lt y))
      omega
     have hq2 : y = mg (bv y) /\ r = mg (bv r) /\ Nat.gcd (bv y) (bv r) = G /\ y.size <= 536870912 /\ r.size <= 536870912 := by
      refine ⟨hi2, by rw [hbr]; exact hr, ?_, hi5, hrs⟩
      rw [hbr, <- hi3, Nat.gcd_comm (bv y), <- Nat.gcd_rec, Nat.gcd_comm]
     clear hr hq hbr hrs
     cbv
     refine CallTo.w hP hE hd ⟨rfl, rfl, trivial⟩ ?_
     cbv
     refine ⟨(y, r), [], hq2, hlt, ?_⟩
     cbv
     simp only [and_self]
    ·intro g3
     have g3 : ¬ y.size > 7 := by subst hE; have := of_decide_eq_false (show decide ((y.size : Int) > 7) = false from g3); omega
     refine exVar ((bv x : Nat) : Int) ?_; intro m0 hm0
     refine exVar ((bv y : Nat) : Int) ?_; intro n0 hn0
     have s1 := rsmall_con x (by omega)
     have s2 := rsmall_con y (by omega)
     rw [<- hm0] at s1
     rw [<- hn0] at s2
     have hb1 := zval_small false x (by omega)
     have hb2 := zval_small false y (by omega)
     have hz2 : 0 <= m0 /\ 0 <= n0 /\ m0 < 72057594037927936 /\ n0 < 72057594037927936 /\ Nat.gcd m0.toNat n0.toNat = G := by
      have e1 : zval false x = m0 := by rw [hm0]; rfl
      have e2 : zval false y = n0 := by rw [hn0]; rfl
      rw [e1] at hb1
      rw [e2] at hb2
      refine ⟨by omega, by omega, by omega, by omega, ?_⟩
      rw [hm0, hn0]; exact hi3
     clear hb1 hb2
     cbv
     refine fork.na (by subst hE; exact (s_sqf y gy)) ?_
     cbv
     refine CallTo.w hP hE s1 ⟨rfl, trivial⟩ ?_
     cbv
     refine CallTo.w hP hE s2 ⟨rfl, trivial⟩ ?_
     cbv
     refine LoopTo.by (ι := Int × Int) (fun x => [(9, .v (.int .i64 x.1)), (10, .v (.int .i64 x.2))]) (fun x => []) (fun x => 0 <= x.1 /\ 0 <= x.2 /\ x.1 < 72057594037927936 /\ x.2 < 72057594037927936 /\ Nat.gcd x.1.toNat x.2.toNat = G) (fun x => x.2.toNat) (m0, n0) [] hz2 ?_ ?_
     ·cbv
      simp only [and_self]
     ·rintro ⟨m, n⟩ hk
      have k1 : 0 <= m := hk.1
      have k2 : 0 <= n := hk.2.1
      have k3 : m < 72057594037927936 := hk.2.2.1
      have k4 : n < 72057594037927936 := hk.2.2.2.1
      have k5 : Nat.gcd m.toNat n.toNat = G := hk.2.2.2.2
      clear hk hz2
      cbv
      refine fork.mk ?_ ?_
      ·intro g5
       have k1 : 0 <= m := k1
       have k2 : 0 <= n := k2
       have k4 : n < 72057594037927936 := k4
       have g5 : 0 < n := by subst hE; exact of_decide_eq_true (show decide (n > 0) = true from g5)
       refine exVar (m % n) ?_; intro r hr
       have hr0 := Int.emod_nonneg m (show n ≠ 0 by omega)
       have hr1 := Int.emod_lt_of_pos m g5
       have hrem : Env.std.ib .rem .i64 m n = r := by rw [s_rem, hr]; exact Int.tmod_eq_emod_of_nonneg k1
       have hnz : Env.std.nz .rem n := by show n ≠ 0; omega
       have hq : 0 <= n /\ 0 <= r /\ n < 72057594037927936 /\ r < 72057594037927936 /\ Nat.gcd n.toNat r.toNat = G := by
        refine ⟨k2, by omega, k4, by omega, ?_⟩
        have e : r.toNat = m.toNat % n.toNat := by
         rw [hr]
         have h1 : m = (m.toNat : Int) := by omega
         have h2 : n = (n.toNat : Int) := by omega
         rw [h1, h2, <- Int.natCast_emod]
         rfl
        rw [e, <- k5, Nat.gcd_comm n.toNat, <- Nat.gcd_rec, Nat.gcd_comm]
       have hmu : r.toNat < n.toNat := by omega
       clear hr hr0 hr1
       cbv
       repeat (refine Need.mk (by subst hE; first | exact hnz | (simp; done)) ?_; cbv)
       refine ⟨(n, r), [], hq, hmu, ?_⟩
       cbv
       subst hE
       and_intros
       all_goals first
        | rfl
        | exact True.intro
        | exact congrArg (fun x => AV.v (Value.int .i64 x)) hrem
        | (simp; done)
        | (trace_state; fail)
      ·intro g5
       have k1 : 0 <= m := k1
       have k2 : 0 <= n := k2
       have k3 : m < 72057594037927936 := k3
       have g5 : ¬ 0 < n := by subst hE; exact of_decide_eq_false (show decide (n > 0) = false from g5)
       have hn : n.toNat = 0 := by omega
       rw [hn, Nat.gcd_zero_right] at k5
       have ho := rof_con m (by omega) (by omega)
       rw [show m = (G : Int) by omega, hG] at ho
       have hmG : m = (G : Int) := by omega
       subst hmG
       cbv
       refine CallTo.w hP hE ho ⟨rfl, trivial⟩ ?_
       cbv
  ·intro gy1
   have gy0 : y = ⟨⟨[]⟩⟩ := by subst hE; exact Classical.not_not.1 (of_decide_eq_false ((s_sqn y _ rfl).symm.trans gy1))
   clear gy1
   have h0 : bv y = 0 := by rw [gy0]; rfl
   have hx : x = xr := by
    have e : bv x = G := by rw [h0, Nat.gcd_zero_right] at hi3; exact hi3
    rw [hi1, e, hxr]
   cbv
   refine fork.ya (by subst hE; exact (s_sqt y gy0)) ?_
   cbv
   rw [hx]
end Go.Proofs.YtfdealobplcboaaGreat.Sx

set_option linter.unusedVariables false
set_option linter.unusedSimpArgs false
set_option maxRecDepth 100000
set_option maxHeartbeats 8000000
namespace Go.Proofs.YtfdealobplcboaaGreat.Sx
theorem zV_zero : zV 0 = .agg #[.bool false, .string ⟨⟨[]⟩⟩] := by
 have h : Zp 0 false ⟨⟨[]⟩⟩ := ⟨rfl, (mg_nil.2 rfl).symm⟩
 exact h.v
theorem rdiv_con (na : Bool) (ma mb : ByteArray) (ha : ma.size <= 536870912) (hb : mb.size <= 536870912) (h0 : 0 < bv mb) (hd : bv mb ∣ bv ma) : Con Tryz.prog 223 [.v (zR na ma), .v (zR false mb)] (.v (.tuple #[zV (zval na ma / (bv mb : Nat)), zV 0, .int .i64 0])) := by
 have hca := rcanon_con na ma (by omega)
 have hcb := rcanon_con false mb (by omega)
 obtain ⟨Q, hQ⟩ : ∃ Q : Nat, bv ma = bv mb * Q := hd
 obtain ⟨sa, xa, za⟩ := Zp.ex (zval na ma)
 obtain ⟨sb, xb, zb⟩ := Zp.ex (zval false mb)
 have hzb : zval false mb = (bv mb : Nat) := rfl
 have hdivz : zval na ma / (bv mb : Nat) = if sa = true then -(Q : Int) else (Q : Int) := by
  have hb0 : ((bv mb : Nat) : Int) ≠ 0 := by omega
  have e1 := za.s
  unfold zval at e1 ⊢
  have hm : (((bv mb * Q : Nat)) : Int) = (bv mb : Int) * Q := Int.natCast_mul _ _
  rw [hQ] at e1 ⊢
  rw [hm] at e1 ⊢
  cases na with
  | false =>
   have : ¬ ((bv mb : Int) * Q < 0) := by
    have := Int.mul_nonneg (Int.natCast_nonneg (bv mb)) (Int.natCast_nonneg Q)
    omega
   simp [this] at e1
   rw [e1]
   simp [Int.mul_ediv_cancel_left _ hb0]
  | true =>
   simp at e1
   by_cases hq : Q = 0
   ·subst hq; simp
   ·have hpos : (0 : Int) < (bv mb : Int) * Q := Int.mul_pos (by omega) (by omega)
    have : sa = true := by rw [e1]; simp; exact hpos
    simp [this]
    rw [<- Int.mul_neg, Int.mul_ediv_cancel_left _ hb0]
 obtain ⟨sr, xr, zr⟩ := Zp.ex (zval na ma / (bv mb : Nat))
 have qa := za.size
 have qb := zb.size
 rw [za.v] at hca
 rw [zb.v] at hcb
 rw [zr.v, zV_zero]
 have hsb : sb = false := by rw [zb.s, hzb]; simp
 have hxb : xb = mg (bv mb) := by rw [zb.m, hzb]; rfl
 have hbxa : bv xa = bv ma := by rw [za.bv, zval_abs]
 have hbxb : bv xb = bv mb := by rw [hxb, bv_mg]
 have hne : ¬ xb = ⟨⟨[]⟩⟩ := by rw [hxb, mg_nil]; omega
 have hxr : xr = mg Q := by
  rw [zr.m, hdivz]; congr 1; split <;> omega
 have hdm := divMag_con xa (bv mb) 536870912 (by omega) (by rw [<- hxb]; omega) (Nat.le_refl _) h0
 rw [hbxa, hQ, Nat.mul_div_cancel_left Q h0, Nat.mul_mod_right, <- hxr, <- hxb, mg_nil.2 rfl] at hdm
 have hof0 := rof_con 0 (by decide) (by decide)
 rw [zV_zero] at hof0
 have hsmall : xa.size < 8 -> xb.size < 8 -> ∃ u v w : Int, Con Tryz.prog 246 [.v (.string xa)] (.v (.int .i64 u)) /\ Con Tryz.prog 246 [.v (.string xb)] (.v (.int .i64 v)) /\ Con Tryz.prog 198 [.v (.int .i64 w)] (.v (.agg #[.bool false, .string xr])) /\ Env.std.ib .quo .i64 u v = w /\ Env.std.ib .rem .i64 u v = 0 /\ Env.std.nz .quo v /\ Env.std.nz .rem v := by
  intro h1 h2
  have s1 := rsmall_con xa (by omega)
  have s2 := rsmall_con xb (by omega)
  rw [hbxa] at s1
  rw [hbxb] at s2
  have b1 := zval_small false xa (by omega)
  have b2 : zval false xa = (bv ma : Nat) := by show ((bv xa : Nat) : Int) = _; rw [hbxa]
  rw [b2] at b1
  have hQle : Q <= bv ma := by rw [hQ]; exact Nat.le_mul_of_pos_left Q h0
  have h3 := rof_con (Q : Int) (by omega) (by omega)
  have zq : Zp (Q : Int) false xr := ⟨by simp, by rw [hxr]; rfl⟩
  rw [zq.v] at h3
  refine ⟨_, _, (Q : Int), s1, s2, h3, ?_, ?_, ?_, ?_⟩
  ·rw [s_quo, hQ, Int.natCast_mul, Int.mul_tdiv_cancel_left _ (by omega), w64 (by omega) (by omega)]
  ·rw [s_rem, hQ, Int.natCast_mul, Int.mul_tmod_right]
  ·show ((bv mb : Nat) : Int) ≠ 0; omega
  ·show ((bv mb : Nat) : Int) ≠ 0; omega
 have hQle : Q <= bv ma := by rw [hQ]; exact Nat.le_mul_of_pos_left Q h0
 have hxs : xr.size <= ma.size := by rw [hxr]; exact mg_size_le (Nat.lt_of_le_of_lt hQle (bv_lt ma))
 have hneg := rneg_con false xr (by omega)
 have hneg2 : sa = true -> Con Tryz.prog 221 [.v (.agg #[.bool false, .string xr])] (.v (.agg #[.bool sr, .string xr])) := by
  intro h
  have e : - zval false xr = zval na ma / (bv mb : Nat) := by
   rw [hdivz, if_pos h]
   show -((bv xr : Nat) : Int) = _
   rw [hxr, bv_mg]
  rw [e, zr.v] at hneg
  exact hneg
 have hpos : sa = false -> sr = false := by
  intro h
  rw [zr.s, hdivz, if_neg (by rw [h]; decide)]; simp
 subst hsb
 have hsq0 : Env.std.sq xb ⟨⟨[]⟩⟩ = false := s_sqf xb hne
 have hsq1 : Env.std.bn (Env.std.sq ⟨⟨[]⟩⟩ ⟨⟨[]⟩⟩) = false := by rw [s_sqn _ _ rfl]; simp
 clear hneg hdivz za zb zr hxb hxr hbxa hbxb hQ hzb hne
 unfold zR at hca hcb ⊢
 refine Con.of ttOk mixed Tryz.func223 { ord := [(1, [0, 2, 1, 3, 4, 5]), (6, [0, 1, 3, 4, 2, 5, 6, 7]), (7, [0, 1, 2, 4, 5, 6, 3, 7, 8, 9]), (13, [0, 1, 2, 3]), (17, (.br 0 (.br 1 (.op 2 (.op 3 (.op 4 .nil))) (.br 2 (.br 1 (.op 3 (.op 4 .nil)) .stop) .stop)) (.br 1 (.br 0 (.op 2 (.op 3 (.op 4 .nil))) .stop) .stop)))] } .nil 0 (by kernel_rfl) (fun P' E hP hE => ?_)
 cbv
 refine CallTo.w hP hE hca ⟨rfl, trivial⟩ ?_
 cbv
 refine CallTo.w hP hE hcb ⟨rfl, trivial⟩ ?_
 cbv
 refine fork.na (by subst hE; exact hsq0) ?_
 cbv
 refine fork.mk ?_ ?_
 ·intro g1
  have g1 : xa.size < 8 := of_decide_eq_true (lt8 hE g1).symm
  cbv
  refine fork.mk ?_ ?_
  ·intro g2
   have g2 : xb.size < 8 := of_decide_eq_true (lt8 hE g2).symm
   refine Exists.elim (hsmall g1 g2) ?_
   intro u hu
   refine Exists.elim hu ?_
   intro v hv
   refine Exists.elim hv ?_
   intro w hw
   have w1 := hw.1
   have w2 := hw.2.1
   have w3 := hw.2.2.1
   have w4 := hw.2.2.2.1
   have w5 := hw.2.2.2.2.1
   have w6 := hw.2.2.2.2.2.1
   have w7 := hw.2.2.2.2.2.2
   clear hu hv hw
   cbv
   refine CallTo.w hP hE w1 ⟨rfl, trivial⟩ ?_
   cbv
   refine CallTo.w hP hE w2 ⟨rfl, trivial⟩ ?_
   cbv
   repeat (refine Need.mk (by subst hE; first | exact w6 | exact w7 | (simp; done)) ?_; cbv)
   refine CallTo.con hP hE w3 (by subst hE; exact ⟨congrArg (Value.int .i64) w4, trivial⟩) ?_
   cbv
   repeat (refine Need.mk (by subst hE; first | exact w6 | exact w7 | (simp; done)) ?_; cbv)
   refine CallTo.con hP hE hof0 (by subst hE; exact ⟨congrArg (Value.int .i64) w5, trivial⟩) ?_
   cbv
   refine fork.mk ?_ ?_
   ·intro g3
    have g3 : sa = true := by
     subst hE
     have h : (!(sa == false)) = true := g3
     cases sa <;> simp_all
    have hneg2 := hneg2 g3
    cbv
    refine CallTo.w hP hE hneg2 ⟨rfl, trivial⟩ ?_
    cbv
    refine fork.na (by subst hE; exact hsq1) ?_
    cbv
    refine fork.na rfl ?_
    cbv
    refine DrawTo.run ?_
    cbv
    repeat' first
     | exact True.intro
     | (refine Both.mk ?_ ?_ <;> cbv)
     | (simp only [and_self]; done)
   ·intro g3
    have g3 : sa = false := by
     subst hE
     have h : (!(sa == false)) = false := g3
     cases sa <;> simp_all
    have hpos := hpos g3
    subst hpos
    cbv
    refine fork.na rfl ?_
    cbv
    refine DrawTo.run ?_
    cbv
    repeat' first
     | exact True.intro
     | (refine Both.mk ?_ ?_ <;> cbv)
     | (simp only [and_self]; done)
  ·intro g2
   cbv
   refine CallTo.w hP hE hdm ⟨rfl, rfl, trivial⟩ ?_
   cbv
   refine fork.mk ?_ ?_
   ·intro g3
    have g3 : sa = true := by
     subst hE
     have h : (!(sa == false)) = true := g3
     cases sa <;> simp_all
    have hneg2 := hneg2 g3
    cbv
    refine CallTo.w hP hE hneg2 ⟨rfl, trivial⟩ ?_
    cbv
    refine fork.na (by subst hE; exact hsq1) ?_
    cbv
    refine fork.na rfl ?_
    cbv
    refine DrawTo.run ?_
    cbv
    repeat' first
     | exact True.intro
     | (refine Both.mk ?_ ?_ <;> cbv)
     | (simp only [and_self]; done)
   ·intro g3
    have g3 : sa = false := by
     subst hE
     have h : (!(sa == false)) = false := g3
     cases sa <;> simp_all
    have hpos := hpos g3
    subst hpos
    cbv
    refine fork.na rfl ?_
    cbv
    refine DrawTo.run ?_
    cbv
    repeat' first
     | exact True.intro
     | (refine Both.mk ?_ ?_ <;> cbv)
     | (simp only [and_self]; done)
 ·intro g1
  cbv
  refine CallTo.w hP hE hdm ⟨rfl, rfl, trivial⟩ ?_
  cbv
  refine fork.mk ?_ ?_
  ·intro g3
   have g3 : sa = true := by
    subst hE
    have h : (!(sa == false)) = true := g3
    cases sa <;> simp_all
   have hneg2 := hneg2 g3
   cbv
   refine CallTo.w hP hE hneg2 ⟨rfl, trivial⟩ ?_
   cbv
   refine fork.na (by subst hE; exact hsq1) ?_
   cbv
   refine fork.na rfl ?_
   cbv
   refine DrawTo.run ?_
   cbv
   repeat' first
    | exact True.intro
    | (refine Both.mk ?_ ?_ <;> cbv)
    | (simp only [and_self]; done)
  ·intro g3
   have g3 : sa = false := by
    subst hE
    have h : (!(sa == false)) = false := g3
    cases sa <;> simp_all
   have hpos := hpos g3
   subst hpos
   cbv
   refine fork.na rfl ?_
   cbv
   refine DrawTo.run ?_
   cbv
   repeat' first
    | exact True.intro
    | (refine Both.mk ?_ ?_ <;> cbv)
    | (simp only [and_self]; done)
end Go.Proofs.YtfdealobplcboaaGreat.Sx

set_option linter.unusedVariables false
set_option linter.unusedSimpArgs false
set_option maxRecDepth 100000
set_option maxHeartbeats 8000000
namespace Go.Proofs.YtfdealobplcboaaGreat.Sx
theorem rnumber_con (s : ByteArray) (h : s.size <= 7) : Con Tryz.prog 216 [.v (.string s)] (.v (.int .i64 (bv s : Nat))) := by
 obtain ⟨r, hr⟩ : ∃ r : Int, r = (bv s : Nat) := ⟨_, rfl⟩
 rw [<- hr]
 refine Con.of ttOk mixed Tryz.func216 {} .nil 0 (by kernel_rfl) (fun P' E hP hE => ?_)
 obtain ⟨i0, hi0⟩ : ∃ i : Int, i = 0 := ⟨_, rfl⟩
 have hz : WInv s i0 i0 := by subst hi0; exact ⟨by omega, by omega, rfl⟩
 have hfin : ∀ i n : Int, WInv s i n -> ¬ i < s.size -> n = r := by
  intro i n q hi
  have q1 := q.i1
  have q0 := q.i0
  rw [q.v, List.take_of_length_le (by rw [<- dg_size]; omega), hr]; rfl
 cbv
 refine LoopTo.by (ι := Int × Int) (fun x => [(4, .v (.int .i64 x.1)), (3, .v (.int .i64 x.2))]) (fun x => []) (fun x => WInv s x.1 x.2) (fun x => ((s.size : Int) - x.1).toNat) (i0, i0) [] hz ?_ ?_
 ·cbv
  subst hE
  and_intros
  all_goals first
   | exact congrArg (Value.int _) hi0.symm
   | (simp; done)
   | (trace_state; fail)
 ·rintro ⟨i, n⟩ hi
  have hi : WInv s i n := hi
  have hi00 := hi.i0
  cbv
  refine fork.mk ?_ ?_
  ·intro h2
   have hlt : i < s.size := by
    subst hE
    have h : Env.std.ic .lss i (Env.std.sz s) = true := h2
    simpa using h
   have q := hi.step h hlt
   have hb := hi.bound
   have hb1 : (256 : Nat) ^ i.toNat <= 256 ^ 6 := pow256_mono (by omega)
   have hb2 : (256 : Nat) ^ 6 = 281474976710656 := by decide
   have hd : ((dg s).getD i.toNat 0).toNat < 256 := UInt8.toNat_lt _
   have q1 : Env.std.ib .add .i64 (Env.std.ib .mul .i64 256 n) (Env.std.cv .i64 (Env.std.sa s i)) = n * 256 + (((dg s).getD i.toNat 0).toNat : Int) := by
    rw [cv_sa, s_mul, s_add, w64 (n := 256 * n) (by omega) (by omega), w64 (by omega) (by omega)]; omega
   refine exVar (n * 256 + (((dg s).getD i.toNat 0).toNat : Int)) ?_
   intro n' hn'
   refine exVar (i + 1) ?_
   intro i' hi'
   have q2 : WInv s i' n' := by rw [hn', hi']; exact q.2
   rw [<- hn'] at q1
   have hii : Env.std.ib .add .i64 i 1 = i' := by rw [s_add, w64 (by omega) (by omega), hi']
   have hin : Env.std.inb i (Env.std.sz s) := by rw [s_inb, s_sz]; exact ⟨hi00, hlt⟩
   have hmu : ((s.size : Int) - i').toNat < ((s.size : Int) - i).toNat := by omega
   clear hn' q hb hb1 hb2
   cbv
   repeat (refine Need.mk (by subst hE; first | exact hin | (simp; done)) ?_; cbv)
   refine ⟨(i', n'), [], q2, hmu, ?_⟩
   cbv
   subst hE
   and_intros
   all_goals first
    | exact congrArg (fun x => AV.v (Value.int .i64 x)) q1
    | exact congrArg (fun x => AV.v (Value.int .i64 x)) hii
    | (simp; done)
    | (trace_state; fail)
  ·intro h2
   have hlt : ¬ i < s.size := by
    subst hE
    have h : Env.std.ic .lss i (Env.std.sz s) = false := h2
    simpa using h
   have q := hfin i n hi hlt
   cbv
   exact congrArg (Value.int .i64) q
theorem shr256 {N : Nat} {j : Int} (h0 : 0 <= j) (h1 : j <= 6) : Env.std.ib .shr .i64 (N : Int) (8 * j) = ((N / 256 ^ j.toNat : Nat) : Int) := by
 have : j = 0 \/ j = 1 \/ j = 2 \/ j = 3 \/ j = 4 \/ j = 5 \/ j = 6 := by omega
 rcases this with rfl | rfl | rfl | rfl | rfl | rfl | rfl <;> (rw [s_shr]; exact Int.fdiv_eq_ediv_of_nonneg _ (by decide))
theorem mgl_nil {n : Nat} : mgl n = [] ↔ n = 0 := by
 constructor
 ·intro h
  have := congrArg dv h
  rwa [dv_mgl] at this
 ·intro h; rw [h, mgl_zero]
/-- The digits of N from weight 256 ^ (k / 8 + 1) on are written. -/
structure DgInv (N : Nat) (k l : Int) (o : List Int) : Prop where
 ex : ∃ j : Int, k = 8 * j /\ -1 <= j /\ j <= 6 /\ l = (o.length : Int) /\ by8 o = mgl (N / 256 ^ (j + 1).toNat)
structure DgStep (N : Nat) (k l : Int) (o : List Int) (d : Int) : Prop where
 rem : Env.std.ib .rem .i64 (Env.std.ib .shr .i64 (N : Int) k) 256 = d
 cv : Env.std.cv .u8 (Env.std.ib .shr .i64 (N : Int) k) = d
 on : (0 < d \/ 0 < l) -> DgInv N (k - 8) (l + 1) (o ++ [d])
 off : ¬ 0 < d -> ¬ 0 < l -> DgInv N (k - 8) l o
 k1 : k <= 48
 len : l = (o.length : Int)
 l1 : l <= 100
theorem DgInv.step {N : Nat} {k l : Int} {o : List Int} (h : DgInv N k l o) (hN : N < 72057594037927936) (hk : 0 <= k) : ∃ d, DgStep N k l o d := by
 obtain ⟨j, h1, h2, h3, h4, h5⟩ := h.ex
 have hj0 : 0 <= j := by omega
 have hol : o.length <= 100 := by
  have e1 : o.length = (by8 o).length := by simp [by8]
  rw [e1, h5]
  have e2 := mg_size_le (n := N / 256 ^ (j + 1).toNat) (k := 7) (by
   have : (256 : Nat) ^ 7 = 72057594037927936 := by decide
   exact Nat.lt_of_le_of_lt (Nat.div_le_self _ _) (by omega))
  rw [dg_size, dg_mg] at e2
  omega
 obtain ⟨D, hD⟩ : ∃ D, D = N / 256 ^ j.toNat := ⟨_, rfl⟩
 have hDD : D / 256 = N / 256 ^ (j + 1).toNat := by
  have e : (j + 1).toNat = j.toNat + 1 := by omega
  rw [hD, e, Nat.pow_succ, Nat.div_div_eq_div_mul]
 have hshr : Env.std.ib .shr .i64 (N : Int) k = (D : Int) := by rw [h1, shr256 hj0 h3, hD]
 have ej : (j - 1 + 1).toNat = j.toNat := by congr 1; omega
 refine ⟨((D % 256 : Nat) : Int), ?_, ?_, ?_, ?_, by omega, h4, by omega⟩
 ·rw [hshr, s_rem, Int.natCast_emod]; exact Int.tmod_eq_emod_of_nonneg (by omega)
 ·rw [hshr, s_cv, IntKind.wrap_u8, Int.natCast_emod]; rfl
 ·intro hd
  have hD0 : D ≠ 0 := by
   intro e
   rcases hd with hd | hd
   ·rw [e] at hd; simp at hd
   ·rw [e] at hDD
    rw [<- hDD, Nat.zero_div, mgl_zero] at h5
    have e1 : o.length = (by8 o).length := by simp [by8]
    rw [h5] at e1
    have e1 : o.length = 0 := e1
    omega
  refine ⟨j - 1, by omega, by omega, by omega, by rw [List.length_append]; simp; omega, ?_⟩
  rw [ej, <- hD, mgl_pos hD0, hDD, <- h5, by8_app]
  rfl
 ·intro hd hl
  have hDm : D % 256 = 0 := by omega
  have ho : o = [] := List.eq_nil_of_length_eq_zero (by omega)
  rw [ho] at h5
  have h6 := mgl_nil.1 (show mgl (N / 256 ^ (j + 1).toNat) = [] from h5.symm)
  rw [<- hDD] at h6
  have h7 : D = 0 := by omega
  refine ⟨j - 1, by omega, by omega, by omega, h4, ?_⟩
  rw [ej, <- hD, h7, mgl_zero, ho]; rfl
theorem DgInv.zero {N : Nat} (hN : N < 72057594037927936) : DgInv N 48 0 [] := by
 refine ⟨6, by omega, by omega, by omega, rfl, ?_⟩
 have e : (256 : Nat) ^ ((6 : Int) + 1).toNat = 72057594037927936 := by decide
 rw [e, Nat.div_eq_of_lt hN, mgl_zero]; rfl
theorem DgInv.last {N : Nat} {k l : Int} {o : List Int} (h : DgInv N k l o) (hk : ¬ 0 <= k) : Env.std.b2s Int (fun x => [.int .u8 x]) (Env.std.tk Int o l) = mg N := by
 obtain ⟨j, h1, h2, h3, h4, h5⟩ := h.ex
 have hj : j = -1 := by omega
 subst hj
 have e : (256 : Nat) ^ ((-1 : Int) + 1).toNat = 1 := by decide
 rw [e, Nat.div_one] at h5
 rw [s_tk, List.take_of_length_le (by omega)]
 refine dg_ext ?_
 rw [dg_mg, <- h5]
 show (((o.flatMap fun x => [Value.int .u8 x]).map byteOf).toArray.toList) = by8 o
 exact flat8 o
theorem rdigits_con (N : Nat) (h : N < 72057594037927936) : Con Tryz.prog 238 [.v (.int .i64 N)] (.v (.string (mg N))) := by
 obtain ⟨res, hres⟩ : ∃ s, s = mg N := ⟨_, rfl⟩
 have hz := DgInv.zero h
 have hlast := fun k l o => @DgInv.last N k l o
 have hstep := fun k l o (q : DgInv N k l o) => q.step h
 rw [<- hres] at hlast ⊢
 obtain ⟨n, hn⟩ : ∃ x : Int, x = N := ⟨_, rfl⟩
 have hrem : ∀ {k l o d}, DgStep N k l o d -> Env.std.ib .rem .i64 (Env.std.ib .shr .i64 n k) 256 = d /\ Env.std.cv .u8 (Env.std.ib .shr .i64 n k) = d := by
  intro k l o d q; rw [hn]; exact ⟨q.rem, q.cv⟩
 rw [<- hn]
 obtain ⟨k0, hk0⟩ : ∃ k : Int, k = 48 := ⟨_, rfl⟩
 obtain ⟨l0, hl0⟩ : ∃ l : Int, l = 0 := ⟨_, rfl⟩
 obtain ⟨b0, hb0⟩ : ∃ b : List Int, b = [] := ⟨_, rfl⟩
 rw [<- hk0, <- hl0, <- hb0] at hz
 clear hn hres
 refine Con.of ttOk mixed Tryz.func238 {} .nil 0 (by kernel_rfl) (fun P' E hP hE => ?_)
 cbv
 refine LoopTo.nil 3 5 (cInt .u8) (cInt_ok _) rfl ?_
 refine LoopTo.by (ι := Int × Int × List Int) (fun x => [(4, .v (.int .i64 x.1)), (3, .s 1 x.2.1)]) (fun x => [(1, .row true 5 (cInt .u8) x.2.2)]) (fun x => DgInv N x.1 x.2.1 x.2.2) (fun x => (x.1 + 8).toNat) (k0, l0, b0) [] hz ?_ ?_
 ·cbv
  subst hE
  and_intros
  all_goals first
   | rfl
   | exact True.intro
   | exact Sm.of hb0.symm
   | exact congrArg (fun x => Value.int .i64 x) hk0.symm
   | exact congrArg (fun x => AV.v (Value.int .i64 x)) hk0.symm
   | (simp [hl0]; done)
   | (trace_state; fail)
 ·rintro ⟨k, l, o⟩ hi
  have hi : DgInv N k l o := hi
  clear hz
  cbv
  refine fork.mk ?_ ?_
  ·intro g1
   have g1 : 0 <= k := by subst hE; exact of_decide_eq_true (show decide (k >= 0) = true from g1)
   refine Exists.elim (hstep k l o hi g1) ?_
   intro d hd
   have hr := hrem hd
   have e1 := hr.1
   have e2 := hr.2
   have hk1 := hd.k1
   have hl1 := hd.l1
   have hlen := hd.len
   have hon := hd.on
   have hoff := hd.off
   have hnz1 : Env.std.nz .shr k := g1
   refine exVar (k - 8) ?_; intro k' hk'
   rw [<- hk'] at hon hoff
   refine exVar (o ++ [d]) ?_; intro o' ho'
   refine exVar (l + 1) ?_; intro l' hl'
   have hfit : Env.std.fits (l + 1) 1 := by rw [s_fits]; omega
   have hrow : Env.std.app Int (Env.std.tk Int o l) [Env.std.cv .u8 (Env.std.ib .shr .i64 n k)] = o' := by
    rw [e2, s_app, s_tk, List.take_of_length_le (by omega), ho']
   have hlr : ∀ a : List Int, a.length = 1 -> Env.std.ad l (Env.std.len Int a) = l' := by
    intro a ha
    rw [s_ad, s_len, ha, hl']; rfl
   rw [<- ho', <- hl'] at hon
   have hkw : Env.std.ib .sub .i64 k 8 = k' := by rw [s_sub, w64 (by omega) (by omega), hk']
   have hmu : (k' + 8).toNat < (k + 8).toNat := by omega
   clear ho' hl' hd hi hk1 hl1 hlen hr e2 h
   cbv
   repeat (refine Need.mk (by subst hE; first | exact hnz1 | (show (256 : Int) ≠ 0; decide) | (simp; done)) ?_; cbv)
   refine fork.mk ?_ ?_
   ·intro g2
    have g2 : 0 < d := by rw [<- e1]; subst hE; exact of_decide_eq_true (show decide (Env.std.ib .rem .i64 (Env.std.ib .shr .i64 n k) 256 > 0) = true from g2)
    have hq := hon (.inl g2)
    cbv
    repeat (refine Need.mk (by subst hE; first | exact hnz1 | exact hfit | (simp; done)) ?_; cbv)
    refine ⟨(k', l', o'), [0, 3], hq, hmu, ?_⟩
    cbv
    subst hE
    and_intros
    all_goals first
     | rfl
     | exact True.intro
     | exact Sm.of hrow
     | exact congrArg (fun x => AV.v (Value.int .i64 x)) hkw
     | exact congrArg (AV.s 3) (hlr _ rfl)
     | (simp; done)
     | (trace_state; fail)
   ·intro g2
    have g2 : ¬ 0 < d := by rw [<- e1]; subst hE; exact of_decide_eq_false (show decide (Env.std.ib .rem .i64 (Env.std.ib .shr .i64 n k) 256 > 0) = false from g2)
    cbv
    refine fork.mk ?_ ?_
    ·intro g3
     have g3 : 0 < l := by subst hE; exact of_decide_eq_true (show decide (l > 0) = true from g3)
     have hq := hon (.inr g3)
     cbv
     repeat (refine Need.mk (by subst hE; first | exact hnz1 | exact hfit | (simp; done)) ?_; cbv)
     refine ⟨(k', l', o'), [0, 3], hq, hmu, ?_⟩
     cbv
     subst hE
     and_intros
     all_goals first
      | rfl
      | exact True.intro
      | exact Sm.of hrow
      | exact congrArg (fun x => AV.v (Value.int .i64 x)) hkw
      | exact congrArg (AV.s 3) (hlr _ rfl)
      | (simp; done)
      | (trace_state; fail)
    ·intro g3
     have g3 : ¬ 0 < l := by subst hE; exact of_decide_eq_false (show decide (l > 0) = false from g3)
     have hq := hoff g2 g3
     cbv
     refine ⟨(k', l, o), [], hq, hmu, ?_⟩
     cbv
     subst hE
     and_intros
     all_goals first
      | rfl
      | exact True.intro
      | exact congrArg (fun x => AV.v (Value.int .i64 x)) hkw
      | (simp; done)
      | (trace_state; fail)
  ·intro g1
   have g1 : ¬ 0 <= k := by subst hE; exact of_decide_eq_false (show decide (k >= 0) = false from g1)
   have hs := hlast k l o hi g1
   cbv
   refine Need.mk (fun y => ⟨y, rfl⟩) ?_
   cbv
   subst hE
   exact congrArg Value.string hs
end Go.Proofs.YtfdealobplcboaaGreat.Sx

set_option linter.unusedVariables false
set_option linter.unusedSimpArgs false
set_option maxRecDepth 100000
set_option maxHeartbeats 8000000
namespace Go.Proofs.YtfdealobplcboaaGreat.Sx
theorem rsm_no (neg : Bool) (num den : ByteArray) (h : 3 < num.size \/ 3 < den.size) : Con Tryz.prog 193 [.v (rR neg num den)] (.v (.tuple #[.int .i64 0, .int .i64 0, .bool false])) := by
 unfold rR
 refine Con.of ttOk mixed Tryz.func193 { ord := [(3, [0, 1, 3, 4, 2, 5, 6, 7])] } .nil 0 (by kernel_rfl) (fun P' E hP hE => ?_)
 cbv
 refine fork.mk ?_ ?_
 ·intro h1
  cbv
 ·intro h1
  have h1 : ¬ 3 < num.size := by subst hE; have := of_decide_eq_false (show decide ((num.size : Int) > 3) = false from h1); omega
  cbv
  refine fork.mk ?_ ?_
  ·intro h2
   cbv
  ·intro h2
   exfalso
   subst hE
   have := of_decide_eq_false (show decide ((den.size : Int) > 3) = false from h2)
   omega
theorem rsm_yes (neg : Bool) (num den : ByteArray) (hn : num.size <= 3) (hd : den.size <= 3) : Con Tryz.prog 193 [.v (rR neg num den)] (.v (.tuple #[.int .i64 (zval neg num), .int .i64 (max (bv den : Int) 1), .bool true])) := by
 have s1 := rnumber_con num (by omega)
 have s2 := rnumber_con den (by omega)
 have b1 := zval_small false num (by omega)
 obtain ⟨N, hN⟩ : ∃ N : Int, N = (bv num : Nat) := ⟨_, rfl⟩
 obtain ⟨D, hD⟩ : ∃ D : Int, D = (bv den : Nat) := ⟨_, rfl⟩
 obtain ⟨rn, hrn⟩ : ∃ N : Int, N = zval neg num := ⟨_, rfl⟩
 obtain ⟨rd, hrd⟩ : ∃ N : Int, N = max (bv den : Int) 1 := ⟨_, rfl⟩
 rw [<- hrn, <- hrd]
 have b2 : N < 72057594037927936 /\ 0 <= N := by
  have e : zval false num = N := by rw [hN]; rfl
  rw [e] at b1
  omega
 rw [<- hN] at s1
 rw [<- hD] at s2
 have d1 : D = 0 -> rd = 1 := by intro h; omega
 have d2 : ¬ D = 0 -> rd = D := by intro h; omega
 have n1 : neg = true -> rn = -N := by intro h; rw [hrn, h, hN]; rfl
 have n2 : neg = false -> rn = N := by intro h; rw [hrn, h, hN]; rfl
 have hun : Env.std.un .neg .i64 N = -N := by rw [s_neg, w64 (by omega) (by omega)]; omega
 clear hrn hrd hN hD b1
 unfold rR
 refine Con.of ttOk mixed Tryz.func193 { ord := [(3, [0, 1, 3, 4, 2, 5, 6, 7])] } .nil 0 (by kernel_rfl) (fun P' E hP hE => ?_)
 cbv
 refine fork.na (by subst hE; exact decide_eq_false (show ¬ ((num.size : Int) > 3) by omega)) ?_
 cbv
 refine fork.na (by subst hE; exact decide_eq_false (show ¬ ((den.size : Int) > 3) by omega)) ?_
 cbv
 refine CallTo.w hP hE s1 ⟨rfl, trivial⟩ ?_
 cbv
 refine CallTo.w hP hE s2 ⟨rfl, trivial⟩ ?_
 cbv
 refine fork.mk ?_ ?_
 ·intro g1
  have g1 : D = 0 := by subst hE; exact of_decide_eq_true (show decide (D = 0) = true from g1)
  have d1 := d1 g1
  cbv
  refine fork.mk ?_ ?_
  ·intro g2
   have n1 := n1 g2
   cbv
   subst hE
   rw [d1, n1]
   exact congrArg (fun x => Value.tuple #[.int .i64 x, .int .i64 1, .bool true]) hun
  ·intro g2
   have n2 := n2 g2
   cbv
   rw [d1, n2]
 ·intro g1
  have g1 : ¬ D = 0 := by subst hE; exact of_decide_eq_false (show decide (D = 0) = false from g1)
  have d2 := d2 g1
  cbv
  refine fork.mk ?_ ?_
  ·intro g2
   have n1 := n1 g2
   cbv
   subst hE
   rw [d2, n1]
   exact congrArg (fun x => Value.tuple #[.int .i64 x, .int .i64 D, .bool true]) hun
  ·intro g2
   have n2 := n2 g2
   cbv
   rw [d2, n2]
/-- The canonical number of n / d in its parts. -/
theorem rI_parts {n : Int} {d : Nat} (h0 : n ≠ 0) (hd : 0 < d) : rI n d = .agg #[.bool (decide (n < 0)), .string (mg (n.natAbs / Nat.gcd n.natAbs d)), .string (if d / Nat.gcd n.natAbs d = 1 then ⟨⟨[]⟩⟩ else mg (d / Nat.gcd n.natAbs d))] := by
 unfold rI rR
 rw [if_neg h0]
 obtain ⟨g, hg⟩ : ∃ g, g = Nat.gcd n.natAbs d := ⟨_, rfl⟩
 rw [<- hg]
 have g0 : 0 < g := by rw [hg]; exact Nat.gcd_pos_of_pos_right _ hd
 have gn : (g : Int) ∣ n := Int.ofNat_dvd_left.2 (by rw [hg]; exact Nat.gcd_dvd_left _ _)
 obtain ⟨q, hq⟩ := gn
 have e1 : n / (g : Int) = q := by rw [hq]; exact Int.mul_ediv_cancel_left _ (by omega)
 have e2 : n.natAbs / g = q.natAbs := by rw [hq, Int.natAbs_mul, Int.natAbs_natCast]; exact Nat.mul_div_cancel_left _ g0
 have e3 : decide (n < 0) = decide (q < 0) := by
  refine decide_eq_decide.2 ?_
  rw [hq]
  constructor
  ·intro h
   refine Decidable.byContradiction fun c => ?_
   have := Int.mul_nonneg (show (0 : Int) <= g by omega) (show 0 <= q by omega)
   omega
  ·intro h
   exact Int.mul_neg_of_pos_of_neg (by omega) h
 rw [e1, e2, e3]
theorem rpack_con (n : Int) (d : Nat) (hd : 0 < d) (hd1 : d < 72057594037927936) (hn : n.natAbs < 72057594037927936) : Con Tryz.prog 209 [.v (.int .i64 n), .v (.int .i64 d)] (.v (rI n d)) := by
 obtain ⟨D, hD⟩ : ∃ D : Int, D = d := ⟨_, rfl⟩
 obtain ⟨N, hN⟩ : ∃ N : Int, N = n.natAbs := ⟨_, rfl⟩
 obtain ⟨G, hG⟩ : ∃ G, G = Nat.gcd n.natAbs d := ⟨_, rfl⟩
 have g0 : 0 < G := by rw [hG]; exact Nat.gcd_pos_of_pos_right _ hd
 have gdn : G ∣ n.natAbs := by rw [hG]; exact Nat.gcd_dvd_left _ _
 have gdd : G ∣ d := by rw [hG]; exact Nat.gcd_dvd_right _ _
 have c1 := rdigits_con (n.natAbs / G) (Nat.lt_of_le_of_lt (Nat.div_le_self _ _) hn)
 have c2 := rdigits_con (d / G) (Nat.lt_of_le_of_lt (Nat.div_le_self _ _) hd1)
 have q1 : Env.std.ib .quo .i64 N (G : Int) = ((n.natAbs / G : Nat) : Int) := by
  rw [s_quo, hN, Int.tdiv_eq_ediv_of_nonneg (by omega), <- Int.natCast_ediv]
  have := Nat.div_le_self n.natAbs G
  generalize n.natAbs / G = u at *
  exact w64 (by omega) (by omega)
 have q2 : Env.std.ib .quo .i64 D (G : Int) = ((d / G : Nat) : Int) := by
  rw [s_quo, hD, Int.tdiv_eq_ediv_of_nonneg (by omega), <- Int.natCast_ediv]
  have := Nat.div_le_self d G
  generalize d / G = u at *
  exact w64 (by omega) (by omega)
 obtain ⟨x1, hx1⟩ : ∃ x, x = mg (n.natAbs / G) := ⟨_, rfl⟩
 obtain ⟨x2, hx2⟩ : ∃ x, x = mg (d / G) := ⟨_, rfl⟩
 obtain ⟨Q1, hQ1⟩ : ∃ x : Int, x = ((n.natAbs / G : Nat) : Int) := ⟨_, rfl⟩
 obtain ⟨Q2, hQ2⟩ : ∃ x : Int, x = ((d / G : Nat) : Int) := ⟨_, rfl⟩
 have hQ2' : Q2 = 1 \/ 1 < Q2 := by
  have : 0 < d / G := Nat.div_pos (Nat.le_of_dvd hd gdd) g0
  omega
 rw [<- hx1, <- hQ1] at c1
 rw [<- hx2, <- hQ2] at c2
 obtain ⟨Gi, hGi⟩ : ∃ x : Int, x = (G : Int) := ⟨_, rfl⟩
 rw [<- hQ1, <- hGi] at q1
 rw [<- hQ2, <- hGi] at q2
 obtain ⟨rs, rn, rd, hres⟩ : ∃ a b c, rI n d = .agg #[.bool a, .string b, .string c] := by
  unfold rI
  split
  ·exact ⟨_, _, _, rfl⟩
  ·exact ⟨_, _, _, rfl⟩
 have t0 : n = 0 -> rs = false /\ rn = ⟨⟨[]⟩⟩ /\ rd = ⟨⟨[]⟩⟩ := by
  intro h
  rw [h] at hres
  unfold rI rR at hres
  rw [if_pos rfl] at hres
  injection hres with hres
  injection hres with hres
  injection hres with h1 hres
  injection hres with h2 hres
  injection hres with h3 hres
  injection h1 with h1
  injection h2 with h2
  injection h3 with h3
  exact ⟨h1.symm, h2.symm, h3.symm⟩
 have t1 : ¬ n = 0 -> rs = decide (n < 0) /\ rn = x1 /\ (Q2 = 1 -> rd = ⟨⟨[]⟩⟩) /\ (1 < Q2 -> rd = x2) := by
  intro h
  rw [rI_parts h hd, <- hG, <- hx1, <- hx2] at hres
  injection hres with hres
  injection hres with hres
  injection hres with h1 hres
  injection hres with h2 hres
  injection hres with h3 hres
  injection h1 with h1
  injection h2 with h2
  injection h3 with h3
  refine ⟨h1.symm, h2.symm, fun e => ?_, fun e => ?_⟩
  ·rw [<- h3, if_pos (by omega)]
  ·rw [<- h3, if_neg (by omega)]
 rw [hres, <- hD]
 have hgcd : Nat.gcd N.toNat D.toNat = G := by rw [hG, hN, hD]; rfl
 have hz : 0 <= N /\ 0 <= D /\ N < 72057594037927936 /\ D < 72057594037927936 /\ Nat.gcd N.toNat D.toNat = G := ⟨by omega, by omega, by omega, by omega, hgcd⟩
 have hNn : n < 0 -> Env.std.un .neg .i64 n = N := by intro h; rw [s_neg, w64 (by omega) (by omega)]; omega
 have hNp : ¬ n < 0 -> n = N := by intro h; omega
 have hN0 : N = 0 ↔ n = 0 := by omega
 have hlt : Env.std.ic .lss n 0 = decide (n < 0) := rfl
 clear hres hx1 hx2 hQ1 hQ2 hgcd gdn gdd hG hN hD hd1 hn hd
 refine Con.of ttOk mixed Tryz.func209 { ord := [(8, [0, 1, 2, 3, 4, 5])] } .nil 0 (by kernel_rfl) (fun P' E hP hE => ?_)
 cbv
 refine fork.mk ?_ ?_
 ·intro g1
  have g1 : n < 0 := by subst hE; exact of_decide_eq_true (show decide (n < 0) = true from g1)
  have hNe : Env.std.un .neg .i64 n = N := hNn g1
  have hcond : Env.std.ic .eql (Env.std.un .neg .i64 n) 0 = false := by
   rw [hNe, s_eql]; exact decide_eq_false (fun h => by have := hN0.1 h; omega)
  cbv
  refine fork.na (by subst hE; exact hcond) ?_
  have t1 := t1 (by omega)
  cbv
  refine LoopTo.by (ι := Int × Int) (fun x => [(6, .v (.int .i64 x.1)), (7, .v (.int .i64 x.2)), (0, .v (.int .i64 N))]) (fun x => []) (fun x => 0 <= x.1 /\ 0 <= x.2 /\ x.1 < 72057594037927936 /\ x.2 < 72057594037927936 /\ Nat.gcd x.1.toNat x.2.toNat = G) (fun x => x.2.toNat) (N, D) [] hz ?_ ?_
  ·cbv
   subst hE
   and_intros
   all_goals first
    | rfl
    | exact True.intro
    | exact congrArg (fun x => AV.v (Value.int .i64 x)) hNe
    | (simp; done)
    | (trace_state; fail)
  ·rintro ⟨m, k⟩ hk
   have k1 : 0 <= m := hk.1
   have k2 : 0 <= k := hk.2.1
   have k3 : m < 72057594037927936 := hk.2.2.1
   have k4 : k < 72057594037927936 := hk.2.2.2.1
   have k5 : Nat.gcd m.toNat k.toNat = G := hk.2.2.2.2
   clear hk hz
   cbv
   refine fork.mk ?_ ?_
   ·intro g5
    have k1 : 0 <= m := k1
    have k2 : 0 <= k := k2
    have k4 : k < 72057594037927936 := k4
    have g5 : 0 < k := by subst hE; exact of_decide_eq_true (show decide (k > 0) = true from g5)
    refine exVar (m % k) ?_; intro r hr
    have hr0 := Int.emod_nonneg m (show k ≠ 0 by omega)
    have hr1 := Int.emod_lt_of_pos m g5
    have hrem : Env.std.ib .rem .i64 m k = r := by rw [s_rem, hr]; exact Int.tmod_eq_emod_of_nonneg k1
    have hnz : Env.std.nz .rem k := by show k ≠ 0; omega
    have hq : 0 <= k /\ 0 <= r /\ k < 72057594037927936 /\ r < 72057594037927936 /\ Nat.gcd k.toNat r.toNat = G := by
     refine ⟨k2, by omega, k4, by omega, ?_⟩
     have e : r.toNat = m.toNat % k.toNat := by
      rw [hr]
      have h1 : m = (m.toNat : Int) := by omega
      have h2 : k = (k.toNat : Int) := by omega
      rw [h1, h2, <- Int.natCast_emod]
      rfl
     rw [e, <- k5, Nat.gcd_comm k.toNat, <- Nat.gcd_rec, Nat.gcd_comm]
    have hmu : r.toNat < k.toNat := by omega
    clear hr hr0 hr1
    cbv
    repeat (refine Need.mk (by subst hE; first | exact hnz | (simp; done)) ?_; cbv)
    refine ⟨(k, r), [], hq, hmu, ?_⟩
    cbv
    subst hE
    and_intros
    all_goals first
     | rfl
     | exact True.intro
     | exact congrArg (fun x => AV.v (Value.int .i64 x)) hrem
     | (simp; done)
     | (trace_state; fail)
   ·intro g5
    have k1 : 0 <= m := k1
    have k2 : 0 <= k := k2
    have g0 : 0 < G := g0
    have g5 : ¬ 0 < k := by subst hE; exact of_decide_eq_false (show decide (k > 0) = false from g5)
    have hk0 : k.toNat = 0 := by omega
    rw [hk0, Nat.gcd_zero_right] at k5
    have hGi : Gi = (G : Int) := hGi
    have hmG : Gi = m := by omega
    rw [hmG] at q1 q2
    have hnz : Env.std.nz .quo m := by show m ≠ 0; omega
    have hq2 : Env.std.ic .gtr (Env.std.ib .quo .i64 D m) 1 = decide (Q2 > 1) := by rw [q2]; rfl
    
    cbv
    repeat (refine Need.mk (by subst hE; first | exact hnz | (simp; done)) ?_; cbv)
    refine CallTo.con hP hE c1 (by subst hE; exact ⟨congrArg (Value.int .i64) q1, trivial⟩) ?_
    cbv
    repeat (refine Need.mk (by subst hE; first | exact hnz | (simp; done)) ?_; cbv)
    refine fork.mk ?_ ?_
    ·intro g6
     have g6 : 1 < Q2 := by subst hE; exact of_decide_eq_true (hq2.symm.trans g6)
     have t2 := t1.2.2.2 g6
     cbv
     repeat (refine Need.mk (by subst hE; first | exact hnz | (simp; done)) ?_; cbv)
     refine CallTo.con hP hE c2 (by subst hE; exact ⟨congrArg (Value.int .i64) q2, trivial⟩) ?_
     cbv
     subst hE
     rw [t2, t1.2.1]
     exact congrArg (fun b => Value.agg #[.bool b, .string x1, .string x2]) (hlt.trans t1.1.symm)
    ·intro g6
     have g6 : ¬ 1 < Q2 := by subst hE; exact of_decide_eq_false (hq2.symm.trans g6)
     have t2 := t1.2.2.1 (by omega)
     cbv
     subst hE
     rw [t2, t1.2.1]
     exact congrArg (fun b => Value.agg #[.bool b, .string x1, .string ⟨⟨[]⟩⟩]) (hlt.trans t1.1.symm)
 ·intro g1
  have g1 : ¬ n < 0 := by subst hE; exact of_decide_eq_false (show decide (n < 0) = false from g1)
  have hNe := hNp g1
  cbv
  refine fork.mk ?_ ?_
  ·intro g2
   have g2 : n = 0 := by subst hE; exact of_decide_eq_true (show decide (n = 0) = true from g2)
   have t0 := t0 g2
   cbv
   rw [t0.1, t0.2.1, t0.2.2]
  ·intro g2
   have g2 : ¬ n = 0 := by subst hE; exact of_decide_eq_false (show decide (n = 0) = false from g2)
   have t1 := t1 g2
   cbv
   refine LoopTo.by (ι := Int × Int) (fun x => [(6, .v (.int .i64 x.1)), (7, .v (.int .i64 x.2)), (0, .v (.int .i64 N))]) (fun x => []) (fun x => 0 <= x.1 /\ 0 <= x.2 /\ x.1 < 72057594037927936 /\ x.2 < 72057594037927936 /\ Nat.gcd x.1.toNat x.2.toNat = G) (fun x => x.2.toNat) (N, D) [] hz ?_ ?_
   ·cbv
    subst hE
    and_intros
    all_goals first
     | rfl
     | exact True.intro
     | exact congrArg (fun x => AV.v (Value.int .i64 x)) hNe
     | (simp; done)
     | (trace_state; fail)
   ·rintro ⟨m, k⟩ hk
    have k1 : 0 <= m := hk.1
    have k2 : 0 <= k := hk.2.1
    have k3 : m < 72057594037927936 := hk.2.2.1
    have k4 : k < 72057594037927936 := hk.2.2.2.1
    have k5 : Nat.gcd m.toNat k.toNat = G := hk.2.2.2.2
    clear hk hz
    cbv
    refine fork.mk ?_ ?_
    ·intro g5
     have k1 : 0 <= m := k1
     have k2 : 0 <= k := k2
     have k4 : k < 72057594037927936 := k4
     have g5 : 0 < k := by subst hE; exact of_decide_eq_true (show decide (k > 0) = true from g5)
     refine exVar (m % k) ?_; intro r hr
     have hr0 := Int.emod_nonneg m (show k ≠ 0 by omega)
     have hr1 := Int.emod_lt_of_pos m g5
     have hrem : Env.std.ib .rem .i64 m k = r := by rw [s_rem, hr]; exact Int.tmod_eq_emod_of_nonneg k1
     have hnz : Env.std.nz .rem k := by show k ≠ 0; omega
     have hq : 0 <= k /\ 0 <= r /\ k < 72057594037927936 /\ r < 72057594037927936 /\ Nat.gcd k.toNat r.toNat = G := by
      refine ⟨k2, by omega, k4, by omega, ?_⟩
      have e : r.toNat = m.toNat % k.toNat := by
       rw [hr]
       have h1 : m = (m.toNat : Int) := by omega
       have h2 : k = (k.toNat : Int) := by omega
       rw [h1, h2, <- Int.natCast_emod]
       rfl
      rw [e, <- k5, Nat.gcd_comm k.toNat, <- Nat.gcd_rec, Nat.gcd_comm]
     have hmu : r.toNat < k.toNat := by omega
     clear hr hr0 hr1
     cbv
     repeat (refine Need.mk (by subst hE; first | exact hnz | (simp; done)) ?_; cbv)
     refine ⟨(k, r), [], hq, hmu, ?_⟩
     cbv
     subst hE
     and_intros
     all_goals first
      | rfl
      | exact True.intro
      | exact congrArg (fun x => AV.v (Value.int .i64 x)) hrem
      | (simp; done)
      | (trace_state; fail)
    ·intro g5
     have k1 : 0 <= m := k1
     have k2 : 0 <= k := k2
     have g0 : 0 < G := g0
     have g5 : ¬ 0 < k := by subst hE; exact of_decide_eq_false (show decide (k > 0) = false from g5)
     have hk0 : k.toNat = 0 := by omega
     rw [hk0, Nat.gcd_zero_right] at k5
     have hGi : Gi = (G : Int) := hGi
     have hmG : Gi = m := by omega
     rw [hmG] at q1 q2
     have hnz : Env.std.nz .quo m := by show m ≠ 0; omega
     have hq2 : Env.std.ic .gtr (Env.std.ib .quo .i64 D m) 1 = decide (Q2 > 1) := by rw [q2]; rfl
     
     cbv
     repeat (refine Need.mk (by subst hE; first | exact hnz | (simp; done)) ?_; cbv)
     refine CallTo.con hP hE c1 (by subst hE; exact ⟨congrArg (Value.int .i64) q1, trivial⟩) ?_
     cbv
     repeat (refine Need.mk (by subst hE; first | exact hnz | (simp; done)) ?_; cbv)
     refine fork.mk ?_ ?_
     ·intro g6
      have g6 : 1 < Q2 := by subst hE; exact of_decide_eq_true (hq2.symm.trans g6)
      have t2 := t1.2.2.2 g6
      cbv
      repeat (refine Need.mk (by subst hE; first | exact hnz | (simp; done)) ?_; cbv)
      refine CallTo.con hP hE c2 (by subst hE; exact ⟨congrArg (Value.int .i64) q2, trivial⟩) ?_
      cbv
      subst hE
      rw [t2, t1.2.1]
      exact congrArg (fun b => Value.agg #[.bool b, .string x1, .string x2]) (hlt.trans t1.1.symm)
     ·intro g6
      have g6 : ¬ 1 < Q2 := by subst hE; exact of_decide_eq_false (hq2.symm.trans g6)
      have t2 := t1.2.2.1 (by omega)
      cbv
      subst hE
      rw [t2, t1.2.1]
      exact congrArg (fun b => Value.agg #[.bool b, .string x1, .string ⟨⟨[]⟩⟩]) (hlt.trans t1.1.symm)
end Go.Proofs.YtfdealobplcboaaGreat.Sx

set_option linter.unusedVariables false
set_option linter.unusedSimpArgs false
set_option maxRecDepth 100000
set_option maxHeartbeats 8000000
namespace Go.Proofs.YtfdealobplcboaaGreat.Sx
theorem Zp.nat (n : Nat) : Zp (n : Int) false (mg n) := ⟨by simp, rfl⟩
theorem mg_one1 : mg 1 = ⟨#[1]⟩ := dg_ext (by rw [dg_mg, mg_one8 (by decide) (by decide)]; rfl)
theorem rparts_con (neg : Bool) (num den : ByteArray) (hn : num.size <= 1073741824) (hd : den.size <= 1073741824) : Con Tryz.prog 170 [.v (rR neg num den)] (.v (.tuple #[zV (zval neg num), zV (bv (dden den) : Nat)])) := by
 have c1 := radd_con neg false num ⟨⟨[]⟩⟩ hn (by decide)
 have c2 := radd_con false false den ⟨⟨[]⟩⟩ hd (by decide)
 have e1 : zval neg num + zval false ⟨⟨[]⟩⟩ = zval neg num := by show _ + ((0 : Nat) : Int) = _; omega
 have e2 : zval false den + zval false ⟨⟨[]⟩⟩ = (bv den : Nat) := by show ((bv den : Nat) : Int) + ((0 : Nat) : Int) = _; omega
 rw [e1] at c1
 rw [e2, (Zp.nat (bv den)).v] at c2
 obtain ⟨sa, xa, za⟩ := Zp.ex (zval neg num)
 rw [za.v] at c1 ⊢
 have c3 := rof_con 1 (by decide) (by decide)
 have hv : zV (bv (dden den) : Nat) = .agg #[.bool false, .string (mg (bv (dden den)))] := (Zp.nat _).v
 have h1 : zV 1 = .agg #[.bool false, .string (mg 1)] := (Zp.nat 1).v
 rw [h1] at c3
 rw [hv]
 obtain ⟨x0, hx0⟩ : ∃ x, x = mg (bv den) := ⟨_, rfl⟩
 obtain ⟨x1, hx1⟩ : ∃ x, x = mg 1 := ⟨_, rfl⟩
 obtain ⟨x2, hx2⟩ : ∃ x, x = mg (bv (dden den)) := ⟨_, rfl⟩
 rw [<- hx0] at c2
 rw [<- hx1] at c3
 rw [<- hx2]
 have k1 : x0 = ⟨⟨[]⟩⟩ -> x2 = x1 := by
  intro h
  have := mg_nil.1 (hx0.symm.trans h)
  rw [hx2, hx1, dden_bv, this]; rfl
 have k2 : ¬ x0 = ⟨⟨[]⟩⟩ -> x2 = x0 := by
  intro h
  have : ¬ bv den = 0 := fun e => h (hx0.trans (mg_nil.2 e))
  rw [hx2, hx0, dden_bv]; congr 1; omega
 have hsq : Env.std.sq x0 ⟨⟨[]⟩⟩ = decide (x0 = ⟨⟨[]⟩⟩) := sq_iff
 clear hx0 hx1 hx2 e1 e2 za hv h1
 unfold rR zR at *
 refine Con.of ttOk mixed Tryz.func170 { ord := [(5, (.br 0 (.br 1 (.op 2 (.op 3 .nil)) (.br 2 (.br 1 (.op 3 .nil) .stop) .stop)) (.br 1 (.br 0 (.op 2 (.op 3 .nil)) .stop) .stop)))] } .nil 0 (by kernel_rfl) (fun P' E hP hE => ?_)
 cbv
 refine CallTo.w hP hE c1 ⟨rfl, rfl, trivial⟩ ?_
 cbv
 refine CallTo.w hP hE c2 ⟨rfl, rfl, trivial⟩ ?_
 cbv
 refine fork.mk ?_ ?_
 ·intro g1
  have k1 := k1 (by subst hE; exact of_decide_eq_true (hsq.symm.trans g1))
  subst k1
  cbv
  refine CallTo.w hP hE c3 ⟨rfl, trivial⟩ ?_
  cbv
  refine DrawTo.run ?_
  cbv
  repeat' first
   | exact True.intro
   | (refine Both.mk ?_ ?_ <;> cbv)
   | (simp only [and_self]; done)
 ·intro g1
  have k2 := k2 (by subst hE; exact of_decide_eq_false (hsq.symm.trans g1))
  subst k2
  cbv
  refine DrawTo.run ?_
  cbv
  repeat' first
   | exact True.intro
   | (refine Both.mk ?_ ?_ <;> cbv)
   | (simp only [and_self]; done)
theorem rreduce_con (na : Bool) (ma mb : ByteArray) (ha : ma.size <= 536870912) (hb : mb.size <= 536870912) (h0 : 0 < bv mb) : Con Tryz.prog 197 [.v (zR na ma), .v (zR false mb)] (.v (rI (zval na ma) (bv mb))) := by
 have c1 := radd_con na false ma ⟨⟨[]⟩⟩ (by omega) (by decide)
 have c2 := radd_con false false mb ⟨⟨[]⟩⟩ (by omega) (by decide)
 have e1 : zval na ma + zval false ⟨⟨[]⟩⟩ = zval na ma := by show _ + ((0 : Nat) : Int) = _; omega
 have e2 : zval false mb + zval false ⟨⟨[]⟩⟩ = (bv mb : Nat) := by show ((bv mb : Nat) : Int) + ((0 : Nat) : Int) = _; omega
 rw [e1] at c1
 rw [e2, (Zp.nat (bv mb)).v] at c2
 obtain ⟨sa, xa, za⟩ := Zp.ex (zval na ma)
 have qa := za.size
 have qb : (mg (bv mb)).size <= mb.size := mg_size_le (bv_lt mb)
 rw [za.v] at c1
 obtain ⟨G, hG⟩ : ∃ G, G = Nat.gcd (zval na ma).natAbs (bv mb) := ⟨_, rfl⟩
 have g0 : 0 < G := by rw [hG]; exact Nat.gcd_pos_of_pos_right _ h0
 have gdn : G ∣ (zval na ma).natAbs := by rw [hG]; exact Nat.gcd_dvd_left _ _
 have gdd : G ∣ bv mb := by rw [hG]; exact Nat.gcd_dvd_right _ _
 have gsz : (mg G).size <= mb.size := mg_size_le (Nat.lt_of_le_of_lt (Nat.le_of_dvd h0 gdd) (bv_lt mb))
 have c3 := rgcd_con sa false xa (mg (bv mb)) (by omega) (by omega)
 rw [za.bv, bv_mg, <- hG, (Zp.nat G).v] at c3
 have c4 := rdiv_con sa xa (mg G) (by omega) (by omega) (by rw [bv_mg]; exact g0) (by rw [bv_mg, za.bv]; exact gdn)
 have c5 := rdiv_con false (mg (bv mb)) (mg G) (by omega) (by omega) (by rw [bv_mg]; exact g0) (by rw [bv_mg, bv_mg]; exact gdd)
 have e3 : zval false (mg (bv mb)) = (bv mb : Nat) := (Zp.nat _).zval
 rw [za.zval, bv_mg] at c4
 rw [e3, bv_mg, <- Int.natCast_ediv, (Zp.nat _).v, zV_zero] at c5
 obtain ⟨sq, xq, zq⟩ := Zp.ex (zval na ma / (G : Nat))
 rw [zq.v, zV_zero] at c4
 obtain ⟨rs, rn, rd, hres⟩ : ∃ a b c, rI (zval na ma) (bv mb) = .agg #[.bool a, .string b, .string c] := by
  unfold rI
  split
  ·exact ⟨_, _, _, rfl⟩
  ·exact ⟨_, _, _, rfl⟩
 have inj : ∀ {a a' : Bool} {b c b' c' : ByteArray}, Value.agg #[.bool a, .string b, .string c] = .agg #[.bool a', .string b', .string c'] -> a = a' /\ b = b' /\ c = c' := by
  intro a a' b c b' c' h
  injection h with h
  injection h with h
  injection h with h1 h
  injection h with h2 h
  injection h with h3 h
  injection h1 with h1
  injection h2 with h2
  injection h3 with h3
  exact ⟨h1, h2, h3⟩
 have t0 : xa = ⟨⟨[]⟩⟩ -> rs = false /\ rn = ⟨⟨[]⟩⟩ /\ rd = ⟨⟨[]⟩⟩ := by
  intro h
  have hz := za.nil.1 h
  rw [hz] at hres
  unfold rI rR at hres
  rw [if_pos rfl] at hres
  have := inj hres
  exact ⟨this.1.symm, this.2.1.symm, this.2.2.symm⟩
 obtain ⟨xd, hxd⟩ : ∃ x, x = mg (bv mb / G) := ⟨_, rfl⟩
 have t1 : ¬ xa = ⟨⟨[]⟩⟩ -> rs = sq /\ rn = xq /\ (xd = ⟨#[1]⟩ -> rd = ⟨⟨[]⟩⟩) /\ (¬ xd = ⟨#[1]⟩ -> rd = xd) := by
  intro h
  have hz : zval na ma ≠ 0 := fun e => h (za.nil.2 e)
  have hr := hres
  unfold rI rR at hr
  rw [if_neg hz, <- hG] at hr
  have h3 := inj hr
  refine ⟨by rw [<- h3.1, zq.s], by rw [<- h3.2.1, zq.m], fun e => ?_, fun e => ?_⟩
  ·rw [<- h3.2.2, if_pos]
   have := congrArg bv (hxd.symm.trans (e.trans mg_one1.symm))
   rwa [bv_mg, bv_mg] at this
  ·rw [<- h3.2.2, if_neg]
   ·exact hxd.symm
   ·intro e'
    exact e (by rw [hxd, e', mg_one1])
 rw [hres]
 obtain ⟨xb, hxb⟩ : ∃ x, x = mg (bv mb) := ⟨_, rfl⟩
 obtain ⟨xg, hxg⟩ : ∃ x, x = mg G := ⟨_, rfl⟩
 rw [<- hxb] at c2 c3 c5
 rw [<- hxg] at c3 c4 c5
 rw [<- hxd] at c5
 have hsq : Env.std.sq xa ⟨⟨[]⟩⟩ = decide (xa = ⟨⟨[]⟩⟩) := sq_iff
 have hsq1 : Env.std.bn (Env.std.sq xd ⟨#[1]⟩) = decide (¬ xd = ⟨#[1]⟩) := by rw [s_bn, sq_iff]; simp
 clear hxb hxg hxd hres e1 e2 e3 za zq hG gdn gdd gsz qa qb inj
 unfold zR at *
 refine Con.of ttOk mixed Tryz.func197 { ord := [(1, [0, 1, 3, 4, 2, 5, 6, 7]), (5, [0, 2, 1, 3, 4, 5])] } .nil 0 (by kernel_rfl) (fun P' E hP hE => ?_)
 cbv
 refine CallTo.w hP hE c1 ⟨rfl, rfl, trivial⟩ ?_
 cbv
 refine CallTo.w hP hE c2 ⟨rfl, rfl, trivial⟩ ?_
 cbv
 refine fork.mk ?_ ?_
 ·intro g1
  have t0 := t0 (by subst hE; exact of_decide_eq_true (hsq.symm.trans g1))
  cbv
  rw [t0.1, t0.2.1, t0.2.2]
 ·intro g1
  have t1 := t1 (by subst hE; exact of_decide_eq_false (hsq.symm.trans g1))
  cbv
  refine fork.na rfl ?_
  cbv
  refine CallTo.w hP hE c3 ⟨rfl, rfl, trivial⟩ ?_
  cbv
  refine CallTo.w hP hE c4 ⟨rfl, rfl, trivial⟩ ?_
  cbv
  refine CallTo.w hP hE c5 ⟨rfl, rfl, trivial⟩ ?_
  cbv
  refine fork.mk ?_ ?_
  ·intro g2
   have t2 := t1.2.2.2 (by subst hE; exact of_decide_eq_true (hsq1.symm.trans g2))
   cbv
   rw [t2, t1.1, t1.2.1]
  ·intro g2
   have t2 := t1.2.2.1 (by subst hE; exact Classical.not_not.1 (of_decide_eq_false (hsq1.symm.trans g2)))
   cbv
   rw [t2, t1.1, t1.2.1]
end Go.Proofs.YtfdealobplcboaaGreat.Sx
