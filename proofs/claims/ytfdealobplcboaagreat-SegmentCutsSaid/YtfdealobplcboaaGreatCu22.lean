/- Part 22 of what the statement needs: an executor of Go texts, arithmetic, and contracts of the functions that are called. -/
import Derived.Test.YtfdealobplcboaaGreatCu14
import Derived.Test.YtfdealobplcboaaGreatCu15
import Derived.Test.YtfdealobplcboaaGreatCu16
import Derived.Test.YtfdealobplcboaaGreatCu19
import Derived.Test.YtfdealobplcboaaGreatCu21
set_option linter.unusedVariables false
set_option linter.unusedSimpArgs false
set_option maxRecDepth 100000
set_option maxHeartbeats 8000000
namespace Go.Proofs.YtfdealobplcboaaGreat.Sx
theorem rsm_ex (neg : Bool) (num den : ByteArray) : ∃ (n d : Int) (f : Bool), Con Tryz.prog 193 [.v (.agg #[.bool neg, .string num, .string den])] (.v (.tuple #[.int .i64 n, .int .i64 d, .bool f])) /\ (f = true -> num.size <= 3 /\ den.size <= 3) := by
 by_cases h : num.size <= 3 /\ den.size <= 3
 ·exact ⟨_, _, true, rsm_yes neg num den h.1 h.2, fun _ => h⟩
 ·exact ⟨0, 0, false, rsm_no neg num den (by omega), fun h => by cases h⟩
/-- A product of integers in their parts. -/
theorem rmul_zp {z w : Int} {sa sb : Bool} {xa xb : ByteArray} (ha : Zp z sa xa) (hb : Zp w sb xb) (qa : xa.size <= 1073741824) (qb : xb.size <= 1073741824) : ∃ s x, Zp (z * w) s x /\ x.size <= xa.size + xb.size /\ Con Tryz.prog 195 [.v (.agg #[.bool sa, .string xa]), .v (.agg #[.bool sb, .string xb])] (.v (.agg #[.bool s, .string x])) := by
 have h := rmul_con sa sb xa xb qa qb
 rw [ha.zval, hb.zval] at h
 obtain ⟨s, x, hz⟩ := Zp.ex (z * w)
 rw [hz.v] at h
 refine ⟨s, x, hz, ?_, h⟩
 rw [hz.m]
 refine mg_size_le ?_
 rw [Int.natAbs_mul, Nat.pow_add]
 have h1 := bv_lt xa
 have h2 := bv_lt xb
 rw [ha.bv] at h1
 rw [hb.bv] at h2
 exact Nat.mul_lt_mul'' h1 h2
theorem radd_zp {z w : Int} {sa sb : Bool} {xa xb : ByteArray} (ha : Zp z sa xa) (hb : Zp w sb xb) (qa : xa.size <= 1073741824) (qb : xb.size <= 1073741824) : ∃ s x, Zp (z + w) s x /\ x.size <= xa.size + xb.size + 1 /\ Con Tryz.prog 210 [.v (.agg #[.bool sa, .string xa]), .v (.agg #[.bool sb, .string xb])] (.v (.agg #[.bool s, .string x])) := by
 have h := radd_con sa sb xa xb qa qb
 rw [ha.zval, hb.zval] at h
 obtain ⟨s, x, hz⟩ := Zp.ex (z + w)
 rw [hz.v] at h
 refine ⟨s, x, hz, ?_, h⟩
 rw [hz.m]
 refine mg_size_le ?_
 have h1 := bv_lt xa
 have h2 := bv_lt xb
 rw [ha.bv] at h1
 rw [hb.bv] at h2
 have h3 := pow256_mono (show xa.size <= xa.size + xb.size by omega)
 have h4 := pow256_mono (show xb.size <= xa.size + xb.size by omega)
 rw [Nat.pow_succ]
 omega
theorem rparts_zp (neg : Bool) (num den : ByteArray) {k : Nat} (hn : num.size <= k) (hd : den.size <= k) (hk : 1 <= k) (hk2 : k <= 134217728) : ∃ s x y, Zp (zval neg num) s x /\ Zp (bv (dden den) : Nat) false y /\ x.size <= k /\ y.size <= k /\ Con Tryz.prog 170 [.v (.agg #[.bool neg, .string num, .string den])] (.v (.tuple #[.agg #[.bool s, .string x], .agg #[.bool false, .string y]])) := by
 have h := rparts_con neg num den (by omega) (by omega)
 obtain ⟨s, x, hz⟩ := Zp.ex (zval neg num)
 have hy := Zp.nat (bv (dden den))
 rw [hz.v, hy.v] at h
 refine ⟨s, x, _, hz, hy, by have := hz.size; omega, ?_, h⟩
 have h1 : (mg (bv (dden den))).size <= (dden den).size := mg_size_le (bv_lt _)
 have h2 := dden_size den
 omega
theorem small_bd {u : ByteArray} (h : u.size <= 3) : bv u < 16777216 := by
 have h1 := bv_lt u
 have h2 := pow256_mono h
 have h3 : (256 : Nat) ^ 3 = 16777216 := by decide
 omega
theorem small_dd {u : ByteArray} (h : u.size <= 3) : 0 < bv (dden u) /\ bv (dden u) < 16777216 /\ max (bv u : Int) 1 = (bv (dden u) : Nat) := by
 have := small_bd h
 rw [dden_bv]
 exact ⟨by omega, by omega, by omega⟩
theorem abs_mul_lt {a b : Int} (ha : a.natAbs < 16777216) (hb : b.natAbs < 16777216) : (a * b).natAbs < 281474976710656 := by
 rw [Int.natAbs_mul]
 have := Nat.mul_lt_mul'' ha hb
 omega
theorem radd_raw (na nb : Bool) (u v u' v' : ByteArray) {k l : Nat} (h1 : u.size <= k) (h2 : v.size <= k) (h3 : u'.size <= l) (h4 : v'.size <= l) (hk : 1 <= k) (hl : 1 <= l) (hkl : k + l <= 134217728) : Con Tryz.prog 171 [.v (rR na u v), .v (rR nb u' v')] (.v (rI (zval na u * (bv (dden v') : Nat) + zval nb u' * (bv (dden v) : Nat)) (bv (dden v) * bv (dden v')))) := by
 have dp : 0 < bv (dden v) := by rw [dden_bv]; omega
 have dp' : 0 < bv (dden v') := by rw [dden_bv]; omega
 obtain ⟨rs, rn, rd, hres⟩ : ∃ a b c, rI (zval na u * (bv (dden v') : Nat) + zval nb u' * (bv (dden v) : Nat)) (bv (dden v) * bv (dden v')) = .agg #[.bool a, .string b, .string c] := by
  unfold rI
  split
  ·exact ⟨_, _, _, rfl⟩
  ·exact ⟨_, _, _, rfl⟩
 by_cases hs : (u.size <= 3 /\ v.size <= 3) /\ (u'.size <= 3 /\ v'.size <= 3)
 ·have s1 := rsm_yes na u v hs.1.1 hs.1.2
  have s2 := rsm_yes nb u' v' hs.2.1 hs.2.2
  have d1 := small_dd hs.1.2
  have d2 := small_dd hs.2.2
  have b1 : (zval na u).natAbs < 16777216 := by rw [zval_abs]; exact small_bd hs.1.1
  have b2 : (zval nb u').natAbs < 16777216 := by rw [zval_abs]; exact small_bd hs.2.1
  rw [d1.2.2] at s1
  rw [d2.2.2] at s2
  have p1 := abs_mul_lt (a := zval na u) (b := (bv (dden v') : Nat)) b1 (by have := d2.2.1; omega)
  have p2 := abs_mul_lt (a := zval nb u') (b := (bv (dden v) : Nat)) b2 (by have := d1.2.1; omega)
  have p3 := abs_mul_lt (a := zval na u) (b := zval nb u') b1 b2
  have p4 := abs_mul_lt (a := (bv (dden v) : Nat)) (b := (bv (dden v') : Nat)) (by have := d1.2.1; omega) (by have := d2.2.1; omega)
  have p5 : bv (dden v) * bv (dden v') < 281474976710656 := by
   rw [<- Int.natCast_mul, Int.natAbs_natCast] at p4; exact p4
  have pk := rpack_con (zval na u * (bv (dden v') : Nat) + zval nb u' * (bv (dden v) : Nat)) (bv (dden v) * bv (dden v')) (Nat.mul_pos dp dp') (by omega) (by omega)
  have w1 : Env.std.ib .mul .i64 (zval na u) (bv (dden v') : Nat) = zval na u * (bv (dden v') : Nat) := by rw [s_mul, w64 (by omega) (by omega)]
  have w2 : Env.std.ib .mul .i64 (zval nb u') (bv (dden v) : Nat) = zval nb u' * (bv (dden v) : Nat) := by rw [s_mul, w64 (by omega) (by omega)]
  have w3 : Env.std.ib .mul .i64 (zval na u) (zval nb u') = zval na u * zval nb u' := by rw [s_mul, w64 (by omega) (by omega)]
  have w4 : Env.std.ib .mul .i64 (bv (dden v) : Nat) (bv (dden v') : Nat) = ((bv (dden v) * bv (dden v') : Nat) : Int) := by rw [s_mul, w64 (by omega) (by omega), Int.natCast_mul]
  have w5 : Env.std.ib .add .i64 (Env.std.ib .mul .i64 (zval na u) (bv (dden v') : Nat)) (Env.std.ib .mul .i64 (zval nb u') (bv (dden v) : Nat)) = zval na u * (bv (dden v') : Nat) + zval nb u' * (bv (dden v) : Nat) := by rw [w1, w2, s_add, w64 (by omega) (by omega)]
  obtain ⟨D, hD⟩ : ∃ D : Int, D = ((bv (dden v) * bv (dden v') : Nat) : Int) := ⟨_, rfl⟩
  obtain ⟨n, hn⟩ : ∃ n, n = zval na u := ⟨_, rfl⟩
  obtain ⟨m, hm⟩ : ∃ n, n = zval nb u' := ⟨_, rfl⟩
  obtain ⟨d, hd⟩ : ∃ n : Int, n = (bv (dden v) : Nat) := ⟨_, rfl⟩
  obtain ⟨e, he⟩ : ∃ n : Int, n = (bv (dden v') : Nat) := ⟨_, rfl⟩
  rw [hres] at pk ⊢
  rw [<- hD] at pk w4
  rw [<- hn, <- hm, <- hd, <- he] at pk w5
  rw [<- hd, <- he] at w4
  obtain ⟨N, hN⟩ : ∃ N : Int, N = n * e + m * d := ⟨_, rfl⟩
  rw [<- hN] at pk w5
  rw [<- hn, <- hd] at s1
  rw [<- hm, <- he] at s2
  clear p1 p2 p3 p4 p5 w1 w2 w3 hD hN hres hn hm hd he b1 b2 d1 d2 dp dp'
  unfold rR at *
  refine Con.of ttOk mixed Tryz.func171 { ord := [(7, [0, 1, 3, 4, 7, 8, 2, 5, 6, 9, 10, 11])] } .nil 0 (by kernel_rfl) (fun P' E hP hE => ?_)
  cbv
  refine CallTo.w hP hE s1 ⟨rfl, trivial⟩ ?_
  cbv
  refine CallTo.w hP hE s2 ⟨rfl, trivial⟩ ?_
  cbv
  refine fork.ya rfl ?_
  cbv
  refine fork.ya rfl ?_
  cbv
  refine CallTo.con hP hE pk (by subst hE; exact ⟨congrArg (Value.int .i64) w5, congrArg (Value.int .i64) w4, trivial⟩) ?_
  cbv
 ·obtain ⟨n1, d1, f1, s1, q1⟩ := rsm_ex na u v
  obtain ⟨n2, d2, f2, s2, q2⟩ := rsm_ex nb u' v'
  obtain ⟨sa, xa, ya, za, wa, la, ma, pa⟩ := rparts_zp na u v h1 h2 hk (by omega)
  obtain ⟨sb, xb, yb, zb, wb, lb, mb, pb⟩ := rparts_zp nb u' v' h3 h4 hl (by omega)
  obtain ⟨t1, y1, z1, l1, m1⟩ := rmul_zp za wb (by omega) (by omega)
  obtain ⟨t2, y2, z2, l2, m2⟩ := rmul_zp zb wa (by omega) (by omega)
  obtain ⟨t3, y3, z3, l3, m3⟩ := radd_zp z1 z2 (by omega) (by omega)
  obtain ⟨t4, y4, z4, l4, m4⟩ := rmul_zp wa wb (by omega) (by omega)
  have e4 : t4 = false := by
   rw [z4.s]
   have := Int.mul_nonneg (Int.natCast_nonneg (bv (dden v))) (Int.natCast_nonneg (bv (dden v')))
   exact decide_eq_false (by omega)
  subst e4
  have b4 : bv y4 = bv (dden v) * bv (dden v') := by rw [z4.bv, <- Int.natCast_mul]; rfl
  have m5 := rreduce_con t3 y3 y4 (by omega) (by omega) (by rw [b4]; exact Nat.mul_pos dp dp')
  rw [z3.zval, b4, hres] at m5
  rw [hres]
  clear za zb wa wb z1 z2 z3 z4 b4 hres dp dp'
  unfold rR zR at *
  refine Con.of ttOk mixed Tryz.func171 { ord := [(7, [0, 1, 3, 4, 7, 8, 2, 5, 6, 9, 10, 11])] } .nil 0 (by kernel_rfl) (fun P' E hP hE => ?_)
  cbv
  refine CallTo.w hP hE s1 ⟨rfl, trivial⟩ ?_
  cbv
  refine CallTo.w hP hE s2 ⟨rfl, trivial⟩ ?_
  cbv
  refine fork.mk ?_ ?_
  ·intro g1
   cbv
   refine fork.na (by
    cases hf : f2 with
    | false => rfl
    | true => exact absurd ⟨q1 g1, q2 hf⟩ hs) ?_
   cbv
   refine CallTo.w hP hE pa ⟨rfl, trivial⟩ ?_
   cbv
   refine CallTo.w hP hE pb ⟨rfl, trivial⟩ ?_
   cbv
   refine CallTo.w hP hE m1 ⟨rfl, rfl, trivial⟩ ?_
   cbv
   refine CallTo.w hP hE m2 ⟨rfl, rfl, trivial⟩ ?_
   cbv
   refine CallTo.w hP hE m3 ⟨rfl, rfl, trivial⟩ ?_
   cbv
   refine CallTo.w hP hE m4 ⟨rfl, rfl, trivial⟩ ?_
   cbv
   refine CallTo.w hP hE m5 ⟨rfl, rfl, trivial⟩ ?_
   cbv
  ·intro g1
   cbv
   refine CallTo.w hP hE pa ⟨rfl, trivial⟩ ?_
   cbv
   refine CallTo.w hP hE pb ⟨rfl, trivial⟩ ?_
   cbv
   refine CallTo.w hP hE m1 ⟨rfl, rfl, trivial⟩ ?_
   cbv
   refine CallTo.w hP hE m2 ⟨rfl, rfl, trivial⟩ ?_
   cbv
   refine CallTo.w hP hE m3 ⟨rfl, rfl, trivial⟩ ?_
   cbv
   refine CallTo.w hP hE m4 ⟨rfl, rfl, trivial⟩ ?_
   cbv
   refine CallTo.w hP hE m5 ⟨rfl, rfl, trivial⟩ ?_
   cbv
theorem rmulq_raw (na nb : Bool) (u v u' v' : ByteArray) {k l : Nat} (h1 : u.size <= k) (h2 : v.size <= k) (h3 : u'.size <= l) (h4 : v'.size <= l) (hk : 1 <= k) (hl : 1 <= l) (hkl : k + l <= 134217728) : Con Tryz.prog 169 [.v (rR na u v), .v (rR nb u' v')] (.v (rI (zval na u * zval nb u') (bv (dden v) * bv (dden v')))) := by
 have dp : 0 < bv (dden v) := by rw [dden_bv]; omega
 have dp' : 0 < bv (dden v') := by rw [dden_bv]; omega
 obtain ⟨rs, rn, rd, hres⟩ : ∃ a b c, rI (zval na u * zval nb u') (bv (dden v) * bv (dden v')) = .agg #[.bool a, .string b, .string c] := by
  unfold rI
  split
  ·exact ⟨_, _, _, rfl⟩
  ·exact ⟨_, _, _, rfl⟩
 by_cases hs : (u.size <= 3 /\ v.size <= 3) /\ (u'.size <= 3 /\ v'.size <= 3)
 ·have s1 := rsm_yes na u v hs.1.1 hs.1.2
  have s2 := rsm_yes nb u' v' hs.2.1 hs.2.2
  have d1 := small_dd hs.1.2
  have d2 := small_dd hs.2.2
  have b1 : (zval na u).natAbs < 16777216 := by rw [zval_abs]; exact small_bd hs.1.1
  have b2 : (zval nb u').natAbs < 16777216 := by rw [zval_abs]; exact small_bd hs.2.1
  rw [d1.2.2] at s1
  rw [d2.2.2] at s2
  have p1 := abs_mul_lt (a := zval na u) (b := (bv (dden v') : Nat)) b1 (by have := d2.2.1; omega)
  have p2 := abs_mul_lt (a := zval nb u') (b := (bv (dden v) : Nat)) b2 (by have := d1.2.1; omega)
  have p3 := abs_mul_lt (a := zval na u) (b := zval nb u') b1 b2
  have p4 := abs_mul_lt (a := (bv (dden v) : Nat)) (b := (bv (dden v') : Nat)) (by have := d1.2.1; omega) (by have := d2.2.1; omega)
  have p5 : bv (dden v) * bv (dden v') < 281474976710656 := by
   rw [<- Int.natCast_mul, Int.natAbs_natCast] at p4; exact p4
  have pk := rpack_con (zval na u * zval nb u') (bv (dden v) * bv (dden v')) (Nat.mul_pos dp dp') (by omega) (by omega)
  have w1 : Env.std.ib .mul .i64 (zval na u) (bv (dden v') : Nat) = zval na u * (bv (dden v') : Nat) := by rw [s_mul, w64 (by omega) (by omega)]
  have w2 : Env.std.ib .mul .i64 (zval nb u') (bv (dden v) : Nat) = zval nb u' * (bv (dden v) : Nat) := by rw [s_mul, w64 (by omega) (by omega)]
  have w3 : Env.std.ib .mul .i64 (zval na u) (zval nb u') = zval na u * zval nb u' := by rw [s_mul, w64 (by omega) (by omega)]
  have w4 : Env.std.ib .mul .i64 (bv (dden v) : Nat) (bv (dden v') : Nat) = ((bv (dden v) * bv (dden v') : Nat) : Int) := by rw [s_mul, w64 (by omega) (by omega), Int.natCast_mul]
  obtain ⟨D, hD⟩ : ∃ D : Int, D = ((bv (dden v) * bv (dden v') : Nat) : Int) := ⟨_, rfl⟩
  obtain ⟨n, hn⟩ : ∃ n, n = zval na u := ⟨_, rfl⟩
  obtain ⟨m, hm⟩ : ∃ n, n = zval nb u' := ⟨_, rfl⟩
  obtain ⟨d, hd⟩ : ∃ n : Int, n = (bv (dden v) : Nat) := ⟨_, rfl⟩
  obtain ⟨e, he⟩ : ∃ n : Int, n = (bv (dden v') : Nat) := ⟨_, rfl⟩
  rw [hres] at pk ⊢
  rw [<- hD] at pk w4
  rw [<- hn, <- hm] at pk w3
  rw [<- hd, <- he] at w4
  obtain ⟨N, hN⟩ : ∃ N : Int, N = n * m := ⟨_, rfl⟩
  rw [<- hN] at pk w3
  rw [<- hn, <- hd] at s1
  rw [<- hm, <- he] at s2
  clear p1 p2 p3 p4 p5 w1 w2  hD hN hres hn hm hd he b1 b2 d1 d2 dp dp'
  unfold rR at *
  refine Con.of ttOk mixed Tryz.func169 { ord := [(7, [0, 1, 3, 4, 2, 5, 6, 7])] } .nil 0 (by kernel_rfl) (fun P' E hP hE => ?_)
  cbv
  refine CallTo.w hP hE s1 ⟨rfl, trivial⟩ ?_
  cbv
  refine CallTo.w hP hE s2 ⟨rfl, trivial⟩ ?_
  cbv
  refine fork.ya rfl ?_
  cbv
  refine fork.ya rfl ?_
  cbv
  refine CallTo.con hP hE pk (by subst hE; exact ⟨congrArg (Value.int .i64) w3, congrArg (Value.int .i64) w4, trivial⟩) ?_
  cbv
 ·obtain ⟨n1, d1, f1, s1, q1⟩ := rsm_ex na u v
  obtain ⟨n2, d2, f2, s2, q2⟩ := rsm_ex nb u' v'
  obtain ⟨sa, xa, ya, za, wa, la, ma, pa⟩ := rparts_zp na u v h1 h2 hk (by omega)
  obtain ⟨sb, xb, yb, zb, wb, lb, mb, pb⟩ := rparts_zp nb u' v' h3 h4 hl (by omega)
  obtain ⟨t1, y1, z1, l1, m1⟩ := rmul_zp za zb (by omega) (by omega)
  obtain ⟨t4, y4, z4, l4, m4⟩ := rmul_zp wa wb (by omega) (by omega)
  have e4 : t4 = false := by
   rw [z4.s]
   have := Int.mul_nonneg (Int.natCast_nonneg (bv (dden v))) (Int.natCast_nonneg (bv (dden v')))
   exact decide_eq_false (by omega)
  subst e4
  have b4 : bv y4 = bv (dden v) * bv (dden v') := by rw [z4.bv, <- Int.natCast_mul]; rfl
  have m5 := rreduce_con t1 y1 y4 (by omega) (by omega) (by rw [b4]; exact Nat.mul_pos dp dp')
  rw [z1.zval, b4, hres] at m5
  rw [hres]
  clear za zb wa wb z1 z4 b4 hres dp dp'
  unfold rR zR at *
  refine Con.of ttOk mixed Tryz.func169 { ord := [(7, [0, 1, 3, 4, 2, 5, 6, 7])] } .nil 0 (by kernel_rfl) (fun P' E hP hE => ?_)
  cbv
  refine CallTo.w hP hE s1 ⟨rfl, trivial⟩ ?_
  cbv
  refine CallTo.w hP hE s2 ⟨rfl, trivial⟩ ?_
  cbv
  refine fork.mk ?_ ?_
  ·intro g1
   cbv
   refine fork.na (by
    cases hf : f2 with
    | false => rfl
    | true => exact absurd ⟨q1 g1, q2 hf⟩ hs) ?_
   cbv
   refine CallTo.w hP hE pa ⟨rfl, trivial⟩ ?_
   cbv
   refine CallTo.w hP hE pb ⟨rfl, trivial⟩ ?_
   cbv
   refine CallTo.w hP hE m1 ⟨rfl, rfl, trivial⟩ ?_
   cbv
   refine CallTo.w hP hE m4 ⟨rfl, rfl, trivial⟩ ?_
   cbv
   refine CallTo.w hP hE m5 ⟨rfl, rfl, trivial⟩ ?_
   cbv
  ·intro g1
   cbv
   refine CallTo.w hP hE pa ⟨rfl, trivial⟩ ?_
   cbv
   refine CallTo.w hP hE pb ⟨rfl, trivial⟩ ?_
   cbv
   refine CallTo.w hP hE m1 ⟨rfl, rfl, trivial⟩ ?_
   cbv
   refine CallTo.w hP hE m4 ⟨rfl, rfl, trivial⟩ ?_
   cbv
   refine CallTo.w hP hE m5 ⟨rfl, rfl, trivial⟩ ?_
   cbv
theorem rcmpq_raw (na nb : Bool) (u v u' v' : ByteArray) {k l : Nat} (h1 : u.size <= k) (h2 : v.size <= k) (h3 : u'.size <= l) (h4 : v'.size <= l) (hk : 1 <= k) (hl : 1 <= l) (hkl : k + l <= 134217728) : Con Tryz.prog 146 [.v (rR na u v), .v (rR nb u' v')] (.v (.int .i64 (cmpI (zval na u * (bv (dden v') : Nat)) (zval nb u' * (bv (dden v) : Nat))))) := by
 have dp : 0 < bv (dden v) := by rw [dden_bv]; omega
 have dp' : 0 < bv (dden v') := by rw [dden_bv]; omega
 obtain ⟨r, hr⟩ : ∃ r, r = cmpI (zval na u * (bv (dden v') : Nat)) (zval nb u' * (bv (dden v) : Nat)) := ⟨_, rfl⟩
 by_cases hs : (u.size <= 3 /\ v.size <= 3) /\ (u'.size <= 3 /\ v'.size <= 3)
 ·have s1 := rsm_yes na u v hs.1.1 hs.1.2
  have s2 := rsm_yes nb u' v' hs.2.1 hs.2.2
  have d1 := small_dd hs.1.2
  have d2 := small_dd hs.2.2
  have b1 : (zval na u).natAbs < 16777216 := by rw [zval_abs]; exact small_bd hs.1.1
  have b2 : (zval nb u').natAbs < 16777216 := by rw [zval_abs]; exact small_bd hs.2.1
  rw [d1.2.2] at s1
  rw [d2.2.2] at s2
  have p1 := abs_mul_lt (a := zval na u) (b := (bv (dden v') : Nat)) b1 (by have := d2.2.1; omega)
  have p2 := abs_mul_lt (a := zval nb u') (b := (bv (dden v) : Nat)) b2 (by have := d1.2.1; omega)
  have p3 := abs_mul_lt (a := zval na u) (b := zval nb u') b1 b2
  have p4 := abs_mul_lt (a := (bv (dden v) : Nat)) (b := (bv (dden v') : Nat)) (by have := d1.2.1; omega) (by have := d2.2.1; omega)
  have p5 : bv (dden v) * bv (dden v') < 281474976710656 := by
   rw [<- Int.natCast_mul, Int.natAbs_natCast] at p4; exact p4
  have w1 : Env.std.ib .mul .i64 (zval na u) (bv (dden v') : Nat) = zval na u * (bv (dden v') : Nat) := by rw [s_mul, w64 (by omega) (by omega)]
  have w2 : Env.std.ib .mul .i64 (zval nb u') (bv (dden v) : Nat) = zval nb u' * (bv (dden v) : Nat) := by rw [s_mul, w64 (by omega) (by omega)]
  have w3 : Env.std.ib .mul .i64 (zval na u) (zval nb u') = zval na u * zval nb u' := by rw [s_mul, w64 (by omega) (by omega)]
  have w4 : Env.std.ib .mul .i64 (bv (dden v) : Nat) (bv (dden v') : Nat) = ((bv (dden v) * bv (dden v') : Nat) : Int) := by rw [s_mul, w64 (by omega) (by omega), Int.natCast_mul]
  obtain ⟨D, hD⟩ : ∃ D : Int, D = ((bv (dden v) * bv (dden v') : Nat) : Int) := ⟨_, rfl⟩
  obtain ⟨n, hn⟩ : ∃ n, n = zval na u := ⟨_, rfl⟩
  obtain ⟨m, hm⟩ : ∃ n, n = zval nb u' := ⟨_, rfl⟩
  obtain ⟨d, hd⟩ : ∃ n : Int, n = (bv (dden v) : Nat) := ⟨_, rfl⟩
  obtain ⟨e, he⟩ : ∃ n : Int, n = (bv (dden v') : Nat) := ⟨_, rfl⟩
  rw [<- hn, <- he] at w1
  rw [<- hm, <- hd] at w2
  rw [<- hn, <- hm, <- hd, <- he] at hr ⊢
  rw [<- hr]
  rw [<- hn, <- hd] at s1
  rw [<- hm, <- he] at s2
  have r1 : n * e < m * d -> r = -1 := fun h => by rw [hr, cmpI, if_pos h]
  have r2 : ¬ n * e < m * d -> n * e > m * d -> r = 1 := fun h h' => by rw [hr, cmpI, if_neg h, if_pos h']
  have r3 : ¬ n * e < m * d -> ¬ n * e > m * d -> r = 0 := fun h h' => by rw [hr, cmpI, if_neg h, if_neg h']
  have k1 : Env.std.ic .lss (Env.std.ib .mul .i64 n e) (Env.std.ib .mul .i64 m d) = decide (n * e < m * d) := by rw [w1, w2]; rfl
  have k2 : Env.std.ic .gtr (Env.std.ib .mul .i64 n e) (Env.std.ib .mul .i64 m d) = decide (n * e > m * d) := by rw [w1, w2]; rfl
  clear p1 p2 p3 p4 p5 w1 w2 w3 w4 hD hr hn hm hd he b1 b2 d1 d2 dp dp'
  unfold rR at *
  refine Con.of ttOk mixed Tryz.func146 { ord := [(11, [0, 1, 3, 4, 2, 5, 6, 7])] } .nil 0 (by kernel_rfl) (fun P' E hP hE => ?_)
  cbv
  refine CallTo.w hP hE s1 ⟨rfl, trivial⟩ ?_
  cbv
  refine CallTo.w hP hE s2 ⟨rfl, trivial⟩ ?_
  cbv
  refine fork.ya rfl ?_
  cbv
  refine fork.ya rfl ?_
  cbv
  refine fork.mk ?_ ?_
  ·intro g1
   have g1 : n * e < m * d := by subst hE; exact of_decide_eq_true (k1.symm.trans g1)
   cbv
   rw [r1 g1]
  ·intro g1
   have g1 : ¬ n * e < m * d := by subst hE; exact of_decide_eq_false (k1.symm.trans g1)
   cbv
   refine fork.mk ?_ ?_
   ·intro g2
    have g2 : n * e > m * d := by subst hE; exact of_decide_eq_true (k2.symm.trans g2)
    cbv
    rw [r2 g1 g2]
   ·intro g2
    have g2 : ¬ n * e > m * d := by subst hE; exact of_decide_eq_false (k2.symm.trans g2)
    cbv
    rw [r3 g1 g2]
 ·obtain ⟨n1, d1, f1, s1, q1⟩ := rsm_ex na u v
  obtain ⟨n2, d2, f2, s2, q2⟩ := rsm_ex nb u' v'
  obtain ⟨sa, xa, ya, za, wa, la, ma, pa⟩ := rparts_zp na u v h1 h2 hk (by omega)
  obtain ⟨sb, xb, yb, zb, wb, lb, mb, pb⟩ := rparts_zp nb u' v' h3 h4 hl (by omega)
  obtain ⟨t1, y1, z1, l1, m1⟩ := rmul_zp za wb (by omega) (by omega)
  obtain ⟨t2, y2, z2, l2, m2⟩ := rmul_zp zb wa (by omega) (by omega)
  have m5 := rcmp_con t1 t2 y1 y2 (by omega) (by omega)
  rw [z1.zval, z2.zval, <- hr] at m5
  rw [<- hr]
  clear za zb wa wb z1 z2 hr dp dp'
  unfold rR zR at *
  refine Con.of ttOk mixed Tryz.func146 { ord := [(11, [0, 1, 3, 4, 2, 5, 6, 7])] } .nil 0 (by kernel_rfl) (fun P' E hP hE => ?_)
  cbv
  refine CallTo.w hP hE s1 ⟨rfl, trivial⟩ ?_
  cbv
  refine CallTo.w hP hE s2 ⟨rfl, trivial⟩ ?_
  cbv
  refine fork.mk ?_ ?_
  ·intro g1
   cbv
   refine fork.na (by
    cases hf : f2 with
    | false => rfl
    | true => exact absurd ⟨q1 g1, q2 hf⟩ hs) ?_
   cbv
   refine CallTo.w hP hE pa ⟨rfl, trivial⟩ ?_
   cbv
   refine CallTo.w hP hE pb ⟨rfl, trivial⟩ ?_
   cbv
   refine CallTo.w hP hE m1 ⟨rfl, rfl, trivial⟩ ?_
   cbv
   refine CallTo.w hP hE m2 ⟨rfl, rfl, trivial⟩ ?_
   cbv
   refine CallTo.w hP hE m5 ⟨rfl, rfl, trivial⟩ ?_
   cbv
  ·intro g1
   cbv
   refine CallTo.w hP hE pa ⟨rfl, trivial⟩ ?_
   cbv
   refine CallTo.w hP hE pb ⟨rfl, trivial⟩ ?_
   cbv
   refine CallTo.w hP hE m1 ⟨rfl, rfl, trivial⟩ ?_
   cbv
   refine CallTo.w hP hE m2 ⟨rfl, rfl, trivial⟩ ?_
   cbv
   refine CallTo.w hP hE m5 ⟨rfl, rfl, trivial⟩ ?_
   cbv
end Go.Proofs.YtfdealobplcboaaGreat.Sx

set_option linter.unusedVariables false
set_option linter.unusedSimpArgs false
set_option maxRecDepth 100000
set_option maxHeartbeats 8000000
namespace Go.Proofs.YtfdealobplcboaaGreat.Sx
theorem xadd_q {a b : R} {x y : Rat} {k l : Nat} (ha : Is k a x) (hb : Is l b y) (h : k + l <= 134217728) : Con Tryz.prog 171 [.v a.v, .v b.v] (.v (cr (x + y)).v) := by
 have e : x + y = mkRat (a.nm * b.dn + b.nm * a.dn) (a.dn * b.dn) := by
  have := a.dn_pos; have := b.dn_pos
  rw [<- ha.q, <- hb.q]; exact Rat.mkRat_add_mkRat _ _ (by omega) (by omega)
 rw [e, <- rI_cr _ _ (Nat.mul_pos a.dn_pos b.dn_pos)]
 exact radd_raw a.neg b.neg a.num a.den b.num b.den ha.n ha.d hb.n hb.d ha.b.pos hb.b.pos h
theorem xmul_q {a b : R} {x y : Rat} {k l : Nat} (ha : Is k a x) (hb : Is l b y) (h : k + l <= 134217728) : Con Tryz.prog 169 [.v a.v, .v b.v] (.v (cr (x * y)).v) := by
 have e : x * y = mkRat (a.nm * b.nm) (a.dn * b.dn) := by
  have := a.dn_pos; have := b.dn_pos
  rw [<- ha.q, <- hb.q]; exact Rat.mkRat_mul_mkRat _ _ _ _
 rw [e, <- rI_cr _ _ (Nat.mul_pos a.dn_pos b.dn_pos)]
 exact rmulq_raw a.neg b.neg a.num a.den b.num b.den ha.n ha.d hb.n hb.d ha.b.pos hb.b.pos h
theorem xcmp_q {a b : R} {x y : Rat} {k l : Nat} (ha : Is k a x) (hb : Is l b y) (h : k + l <= 134217728) : Con Tryz.prog 146 [.v a.v, .v b.v] (.v (.int .i64 (cmpQ x y))) := by
 have e : cmpQ x y = cmpI (a.nm * b.dn) (b.nm * a.dn) := by
  rw [<- ha.q, <- hb.q]; exact (cmpI_q a.dn_pos b.dn_pos).symm
 rw [e]
 exact rcmpq_raw a.neg b.neg a.num a.den b.num b.den ha.n ha.d hb.n hb.d ha.b.pos hb.b.pos h
theorem xadd_c {P' : Program} {E : Env} (hP : P' = Tryz.prog) (hE : E = Env.std) {hh : List Blk} {K : AV -> List Blk -> Prop} {an0 : Bool} {au0 ad0 : ByteArray} {x : Rat} {k : Nat} {bn0 : Bool} {bu0 bd0 : ByteArray} {y : Rat} {l : Nat} (ha : Is k ⟨an0, au0, ad0⟩ x) (hb : Is l ⟨bn0, bu0, bd0⟩ y) (h : k + l <= 134217728) (hk : ∀ r0 : R, r0 = cr (x + y) -> Is (k + l + 1) r0 (x + y) -> K (.v (r0.v)) hh) : CallTo P' hh 171 [.v (.agg #[.bool an0, .string au0, .string ad0]), .v (.agg #[.bool bn0, .string bu0, .string bd0])] K := by
 refine CallTo.con hP hE (xadd_q ha hb h) ⟨rfl, rfl, trivial⟩ ?_
 have := hk _ rfl (ha.b.add hb.b).is 
 simp only [outV, outW, List.append_nil]
 exact this
theorem xmul_c {P' : Program} {E : Env} (hP : P' = Tryz.prog) (hE : E = Env.std) {hh : List Blk} {K : AV -> List Blk -> Prop} {an0 : Bool} {au0 ad0 : ByteArray} {x : Rat} {k : Nat} {bn0 : Bool} {bu0 bd0 : ByteArray} {y : Rat} {l : Nat} (ha : Is k ⟨an0, au0, ad0⟩ x) (hb : Is l ⟨bn0, bu0, bd0⟩ y) (h : k + l <= 134217728) (hk : ∀ r0 : R, r0 = cr (x * y) -> Is (k + l) r0 (x * y) -> K (.v (r0.v)) hh) : CallTo P' hh 169 [.v (.agg #[.bool an0, .string au0, .string ad0]), .v (.agg #[.bool bn0, .string bu0, .string bd0])] K := by
 refine CallTo.con hP hE (xmul_q ha hb h) ⟨rfl, rfl, trivial⟩ ?_
 have := hk _ rfl (ha.b.mul hb.b).is 
 simp only [outV, outW, List.append_nil]
 exact this
theorem xcmp_c {P' : Program} {E : Env} (hP : P' = Tryz.prog) (hE : E = Env.std) {hh : List Blk} {K : AV -> List Blk -> Prop} {an0 : Bool} {au0 ad0 : ByteArray} {x : Rat} {k : Nat} {bn0 : Bool} {bu0 bd0 : ByteArray} {y : Rat} {l : Nat} (ha : Is k ⟨an0, au0, ad0⟩ x) (hb : Is l ⟨bn0, bu0, bd0⟩ y) (h : k + l <= 134217728) (hk : ∀ r0 : Int, r0 = cmpQ x y -> K (.v (.int .i64 r0)) hh) : CallTo P' hh 146 [.v (.agg #[.bool an0, .string au0, .string ad0]), .v (.agg #[.bool bn0, .string bu0, .string bd0])] K := by
 refine CallTo.con hP hE (xcmp_q ha hb h) ⟨rfl, rfl, trivial⟩ ?_
 have := hk _ rfl
 simp only [outV, outW, List.append_nil]
 exact this
theorem xsub_q {a b : R} {x y : Rat} {k l : Nat} (ha : Is k a x) (hb : Is l b y) (h : k + l <= 134217728) : Con Tryz.prog 145 [.v a.v, .v b.v] (.v (cr (x - y)).v) := by
 obtain ⟨n1, u1, d1⟩ := a
 obtain ⟨n2, u2, d2⟩ := b
 have hc := xadd_q ha hb.not h
 rw [<- Rat.sub_eq_add_neg] at hc
 obtain ⟨r, hr⟩ : ∃ r, r = cr (x - y) := ⟨_, rfl⟩
 rw [<- hr] at hc ⊢
 refine Con.of ttOk mixed Tryz.func145 {} .nil 0 (by kernel_rfl) (fun P' E hP hE => ?_)
 clear hr
 cbv
 refine CallTo.w hP hE hc (by subst hE; exact ⟨rfl, rfl, trivial⟩) ?_
 cbv
theorem xsub_c {P' : Program} {E : Env} (hP : P' = Tryz.prog) (hE : E = Env.std) {hh : List Blk} {K : AV -> List Blk -> Prop} {an0 : Bool} {au0 ad0 : ByteArray} {x : Rat} {k : Nat} {bn0 : Bool} {bu0 bd0 : ByteArray} {y : Rat} {l : Nat} (ha : Is k ⟨an0, au0, ad0⟩ x) (hb : Is l ⟨bn0, bu0, bd0⟩ y) (h : k + l <= 134217728) (hk : ∀ r0 : R, r0 = cr (x - y) -> Is (k + l + 1) r0 (x - y) -> K (.v (r0.v)) hh) : CallTo P' hh 145 [.v (.agg #[.bool an0, .string au0, .string ad0]), .v (.agg #[.bool bn0, .string bu0, .string bd0])] K := by
 refine CallTo.con hP hE (xsub_q ha hb h) ⟨rfl, rfl, trivial⟩ ?_
 have := hk _ rfl (ha.b.sub hb.b).is 
 simp only [outV, outW, List.append_nil]
 exact this
theorem xsign_q {a : R} {x : Rat} {k : Nat} (ha : Is k a x) (h : k + 1 <= 134217728) : Con Tryz.prog 102 [.v a.v] (.v (.int .i64 (cmpQ x 0))) := by
 obtain ⟨an0, au0, ad0⟩ := a
 obtain ⟨r0, e0⟩ : ∃ r, r = cmpQ x 0 := ⟨_, rfl⟩
 rw [<- e0]
 have hz := Is.zero
 refine Con.of ttOk mixed Tryz.func102 {} .nil 0 (by kernel_rfl) (fun P' E hP hE => ?_)
 cbv
 refine xcmp_c hP hE (by assumption) (by assumption) (by omega) ?_
 intro m em
 cbv
 rw [e0, em]
theorem xsign_c {P' : Program} {E : Env} (hP : P' = Tryz.prog) (hE : E = Env.std) {hh : List Blk} {K : AV -> List Blk -> Prop} {an0 : Bool} {au0 ad0 : ByteArray} {x : Rat} {k : Nat} (ha : Is k ⟨an0, au0, ad0⟩ x) (h : k + 1 <= 134217728) (hk : ∀ r0 : Int, r0 = cmpQ x 0 -> K (.v (.int .i64 r0)) hh) : CallTo P' hh 102 [.v (.agg #[.bool an0, .string au0, .string ad0])] K := by
 refine CallTo.con hP hE (xsign_q ha h) ⟨rfl, trivial⟩ ?_
 have := hk _ rfl
 simp only [outV, outW, List.append_nil]
 exact this
end Go.Proofs.YtfdealobplcboaaGreat.Sx

set_option linter.unusedVariables false
set_option linter.unusedSimpArgs false
set_option maxRecDepth 100000
set_option maxHeartbeats 8000000
namespace Go.Proofs.YtfdealobplcboaaGreat.Sx
theorem yadd_q {a : Pt} {A : Pq} {k : Nat} {b : Pt} {B : Pq} {l : Nat} (ha : IsP k a A) (hb : IsP l b B) (h : k + l <= 134217728) : Con Tryz.prog 108 [.v a.v, .v b.v] (.v ((crP (A.add B)).v)) := by
 obtain ⟨⟨an0, au0, ad0⟩, ⟨an1, au1, ad1⟩⟩ := a
 have hax : Is k ⟨an0, au0, ad0⟩ A.x := ha.x
 have hay : Is k ⟨an1, au1, ad1⟩ A.y := ha.y
 obtain ⟨⟨bn0, bu0, bd0⟩, ⟨bn1, bu1, bd1⟩⟩ := b
 have hbx : Is l ⟨bn0, bu0, bd0⟩ B.x := hb.x
 have hby : Is l ⟨bn1, bu1, bd1⟩ B.y := hb.y
 obtain ⟨r0, e0⟩ : ∃ r, r = crP (A.add B) := ⟨_, rfl⟩
 rw [<- e0]
 refine Con.of ttOk mixed Tryz.func108 { ord := [(1, [0, 1, 2, 3, 5, 6, 7, 8, 4, 9, 10, 11])] } .nil 0 (by kernel_rfl) (fun P' E hP hE => ?_)
 cbv
 refine xadd_c hP hE (by assumption) (by assumption) (by omega) ?_
 intro c1 ec1 hc1
 cbv
 refine xadd_c hP hE (by assumption) (by assumption) (by omega) ?_
 intro c2 ec2 hc2
 cbv
 rw [e0, ec1, ec2]; rfl
theorem ysub_q {a : Pt} {A : Pq} {k : Nat} {b : Pt} {B : Pq} {l : Nat} (ha : IsP k a A) (hb : IsP l b B) (h : k + l <= 134217728) : Con Tryz.prog 100 [.v a.v, .v b.v] (.v ((crP (A.sub B)).v)) := by
 obtain ⟨⟨an0, au0, ad0⟩, ⟨an1, au1, ad1⟩⟩ := a
 have hax : Is k ⟨an0, au0, ad0⟩ A.x := ha.x
 have hay : Is k ⟨an1, au1, ad1⟩ A.y := ha.y
 obtain ⟨⟨bn0, bu0, bd0⟩, ⟨bn1, bu1, bd1⟩⟩ := b
 have hbx : Is l ⟨bn0, bu0, bd0⟩ B.x := hb.x
 have hby : Is l ⟨bn1, bu1, bd1⟩ B.y := hb.y
 obtain ⟨r0, e0⟩ : ∃ r, r = crP (A.sub B) := ⟨_, rfl⟩
 rw [<- e0]
 refine Con.of ttOk mixed Tryz.func100 { ord := [(1, [0, 1, 2, 3, 5, 6, 7, 8, 4, 9, 10, 11])] } .nil 0 (by kernel_rfl) (fun P' E hP hE => ?_)
 cbv
 refine xsub_c hP hE (by assumption) (by assumption) (by omega) ?_
 intro c1 ec1 hc1
 cbv
 refine xsub_c hP hE (by assumption) (by assumption) (by omega) ?_
 intro c2 ec2 hc2
 cbv
 rw [e0, ec1, ec2]; rfl
theorem ycross_q {a : Pt} {A : Pq} {k : Nat} {b : Pt} {B : Pq} {l : Nat} (ha : IsP k a A) (hb : IsP l b B) (h : 2 * (k + l) <= 134217728) : Con Tryz.prog 101 [.v a.v, .v b.v] (.v ((cr (A.cross B)).v)) := by
 obtain ⟨⟨an0, au0, ad0⟩, ⟨an1, au1, ad1⟩⟩ := a
 have hax : Is k ⟨an0, au0, ad0⟩ A.x := ha.x
 have hay : Is k ⟨an1, au1, ad1⟩ A.y := ha.y
 obtain ⟨⟨bn0, bu0, bd0⟩, ⟨bn1, bu1, bd1⟩⟩ := b
 have hbx : Is l ⟨bn0, bu0, bd0⟩ B.x := hb.x
 have hby : Is l ⟨bn1, bu1, bd1⟩ B.y := hb.y
 obtain ⟨r0, e0⟩ : ∃ r, r = cr (A.cross B) := ⟨_, rfl⟩
 rw [<- e0]
 refine Con.of ttOk mixed Tryz.func101 { ord := [(1, [0, 1, 2, 3, 5, 6, 7, 8, 4, 9, 10, 11])] } .nil 0 (by kernel_rfl) (fun P' E hP hE => ?_)
 cbv
 refine xmul_c hP hE (by assumption) (by assumption) (by omega) ?_
 intro c1 ec1 hc1
 cbv
 refine xmul_c hP hE (by assumption) (by assumption) (by omega) ?_
 intro c2 ec2 hc2
 cbv
 refine xsub_c hP hE (by assumption) (by assumption) (by omega) ?_
 intro c3 ec3 hc3
 cbv
 rw [e0, ec3]; rfl
theorem yadd_c {P' : Program} {E : Env} (hP : P' = Tryz.prog) (hE : E = Env.std) {hh : List Blk} {K : AV -> List Blk -> Prop} {an0 an1 : Bool} {au0 ad0 au1 ad1 : ByteArray} {A : Pq} {k : Nat} {bn0 bn1 : Bool} {bu0 bd0 bu1 bd1 : ByteArray} {B : Pq} {l : Nat} (ha : IsP k ⟨⟨an0, au0, ad0⟩, ⟨an1, au1, ad1⟩⟩ A) (hb : IsP l ⟨⟨bn0, bu0, bd0⟩, ⟨bn1, bu1, bd1⟩⟩ B) (h : k + l <= 134217728) (hk : ∀ r0 : Pt, r0 = crP (A.add B) -> IsP (k + l + 1) r0 (A.add B) -> Is (k + l + 1) r0.x (A.add B).x -> Is (k + l + 1) r0.y (A.add B).y -> K (.v (r0.v)) hh) : CallTo P' hh 108 [.v (.agg #[.bool an0, .string au0, .string ad0, .bool an1, .string au1, .string ad1]), .v (.agg #[.bool bn0, .string bu0, .string bd0, .bool bn1, .string bu1, .string bd1])] K := by
 refine CallTo.con hP hE (yadd_q ha hb h) ⟨rfl, rfl, trivial⟩ ?_
 have := hk _ rfl (ha.b.add hb.b).is (ha.b.add hb.b).is.x (ha.b.add hb.b).is.y
 simp only [outV, outW, List.append_nil]
 exact this
theorem ysub_c {P' : Program} {E : Env} (hP : P' = Tryz.prog) (hE : E = Env.std) {hh : List Blk} {K : AV -> List Blk -> Prop} {an0 an1 : Bool} {au0 ad0 au1 ad1 : ByteArray} {A : Pq} {k : Nat} {bn0 bn1 : Bool} {bu0 bd0 bu1 bd1 : ByteArray} {B : Pq} {l : Nat} (ha : IsP k ⟨⟨an0, au0, ad0⟩, ⟨an1, au1, ad1⟩⟩ A) (hb : IsP l ⟨⟨bn0, bu0, bd0⟩, ⟨bn1, bu1, bd1⟩⟩ B) (h : k + l <= 134217728) (hk : ∀ r0 : Pt, r0 = crP (A.sub B) -> IsP (k + l + 1) r0 (A.sub B) -> Is (k + l + 1) r0.x (A.sub B).x -> Is (k + l + 1) r0.y (A.sub B).y -> K (.v (r0.v)) hh) : CallTo P' hh 100 [.v (.agg #[.bool an0, .string au0, .string ad0, .bool an1, .string au1, .string ad1]), .v (.agg #[.bool bn0, .string bu0, .string bd0, .bool bn1, .string bu1, .string bd1])] K := by
 refine CallTo.con hP hE (ysub_q ha hb h) ⟨rfl, rfl, trivial⟩ ?_
 have := hk _ rfl (ha.b.sub hb.b).is (ha.b.sub hb.b).is.x (ha.b.sub hb.b).is.y
 simp only [outV, outW, List.append_nil]
 exact this
theorem ycross_c {P' : Program} {E : Env} (hP : P' = Tryz.prog) (hE : E = Env.std) {hh : List Blk} {K : AV -> List Blk -> Prop} {an0 an1 : Bool} {au0 ad0 au1 ad1 : ByteArray} {A : Pq} {k : Nat} {bn0 bn1 : Bool} {bu0 bd0 bu1 bd1 : ByteArray} {B : Pq} {l : Nat} (ha : IsP k ⟨⟨an0, au0, ad0⟩, ⟨an1, au1, ad1⟩⟩ A) (hb : IsP l ⟨⟨bn0, bu0, bd0⟩, ⟨bn1, bu1, bd1⟩⟩ B) (h : 2 * (k + l) <= 134217728) (hk : ∀ r0 : R, r0 = cr (A.cross B) -> Is (2 * (k + l) + 1) r0 (A.cross B) -> K (.v (r0.v)) hh) : CallTo P' hh 101 [.v (.agg #[.bool an0, .string au0, .string ad0, .bool an1, .string au1, .string ad1]), .v (.agg #[.bool bn0, .string bu0, .string bd0, .bool bn1, .string bu1, .string bd1])] K := by
 refine CallTo.con hP hE (ycross_q ha hb h) ⟨rfl, rfl, trivial⟩ ?_
 have := hk _ rfl (ha.b.cross hb.b).is 
 simp only [outV, outW, List.append_nil]
 exact this
theorem ycmp_q {a : Pt} {A : Pq} {k : Nat} {b : Pt} {B : Pq} {l : Nat} (ha : IsP k a A) (hb : IsP l b B) (h : k + l <= 134217728) : Con Tryz.prog 106 [.v a.v, .v b.v] (.v (.int .i64 (cmpP A B))) := by
 obtain ⟨⟨an0, au0, ad0⟩, ⟨an1, au1, ad1⟩⟩ := a
 have hax : Is k ⟨an0, au0, ad0⟩ A.x := ha.x
 have hay : Is k ⟨an1, au1, ad1⟩ A.y := ha.y
 obtain ⟨⟨bn0, bu0, bd0⟩, ⟨bn1, bu1, bd1⟩⟩ := b
 have hbx : Is l ⟨bn0, bu0, bd0⟩ B.x := hb.x
 have hby : Is l ⟨bn1, bu1, bd1⟩ B.y := hb.y
 obtain ⟨r0, e0⟩ : ∃ r, r = cmpP A B := ⟨_, rfl⟩
 rw [<- e0]
 refine Con.of ttOk mixed Tryz.func106 {} .nil 0 (by kernel_rfl) (fun P' E hP hE => ?_)
 cbv
 refine xcmp_c hP hE (by assumption) (by assumption) (by omega) ?_
 intro m1 em1
 cbv
 refine fork.mk ?_ ?_
 ·intro k1
  cbv
  subst hE
  have k1 : Env.std.ic .neq m1 0 = true := k1
  simp at k1
  rw [e0, em1, cmpP, if_pos (by rw [<- em1]; exact k1)]
 ·intro k1
  cbv
  refine xcmp_c hP hE (by assumption) (by assumption) (by omega) ?_
  intro m2 em2
  cbv
  subst hE
  have k1 : Env.std.ic .neq m1 0 = false := k1
  simp at k1
  rw [e0, em2, cmpP, if_neg (by rw [<- em1, k1]; simp)]
theorem ycmp_c {P' : Program} {E : Env} (hP : P' = Tryz.prog) (hE : E = Env.std) {hh : List Blk} {K : AV -> List Blk -> Prop} {an0 an1 : Bool} {au0 ad0 au1 ad1 : ByteArray} {A : Pq} {k : Nat} {bn0 bn1 : Bool} {bu0 bd0 bu1 bd1 : ByteArray} {B : Pq} {l : Nat} (ha : IsP k ⟨⟨an0, au0, ad0⟩, ⟨an1, au1, ad1⟩⟩ A) (hb : IsP l ⟨⟨bn0, bu0, bd0⟩, ⟨bn1, bu1, bd1⟩⟩ B) (h : k + l <= 134217728) (hk : ∀ r0 : Int, r0 = cmpP A B -> K (.v (.int .i64 r0)) hh) : CallTo P' hh 106 [.v (.agg #[.bool an0, .string au0, .string ad0, .bool an1, .string au1, .string ad1]), .v (.agg #[.bool bn0, .string bu0, .string bd0, .bool bn1, .string bu1, .string bd1])] K := by
 refine CallTo.con hP hE (ycmp_q ha hb h) ⟨rfl, rfl, trivial⟩ ?_
 have := hk _ rfl
 simp only [outV, outW, List.append_nil]
 exact this
theorem yor_q {a : Pt} {A : Pq} {k : Nat} {b : Pt} {B : Pq} {c : Pt} {C : Pq} (ha : IsP k a A) (hb : IsP k b B) (hc : IsP k c C) (h : 16 * k + 16 <= 134217728) : Con Tryz.prog 103 [.v a.v, .v b.v, .v c.v] (.v (.int .i64 (orQ A B C))) := by
 obtain ⟨⟨an0, au0, ad0⟩, ⟨an1, au1, ad1⟩⟩ := a
 have hax : Is k ⟨an0, au0, ad0⟩ A.x := ha.x
 have hay : Is k ⟨an1, au1, ad1⟩ A.y := ha.y
 obtain ⟨⟨bn0, bu0, bd0⟩, ⟨bn1, bu1, bd1⟩⟩ := b
 have hbx : Is k ⟨bn0, bu0, bd0⟩ B.x := hb.x
 have hby : Is k ⟨bn1, bu1, bd1⟩ B.y := hb.y
 obtain ⟨⟨cn0, cu0, cd0⟩, ⟨cn1, cu1, cd1⟩⟩ := c
 have hcx : Is k ⟨cn0, cu0, cd0⟩ C.x := hc.x
 have hcy : Is k ⟨cn1, cu1, cd1⟩ C.y := hc.y
 obtain ⟨r0, e0⟩ : ∃ r, r = orQ A B C := ⟨_, rfl⟩
 rw [<- e0]
 refine Con.of ttOk mixed Tryz.func103 { ord := [(1, [0, 1, 3, 4, 2, 5, 6, 7, 8])] } .nil 0 (by kernel_rfl) (fun P' E hP hE => ?_)
 cbv
 refine ysub_c hP hE (by assumption) (by assumption) (by omega) ?_
 intro c1 ec1 hc1 hc1x hc1y
 cbv
 refine ysub_c hP hE (by assumption) (by assumption) (by omega) ?_
 intro c2 ec2 hc2 hc2x hc2y
 cbv
 refine ycross_c hP hE (by assumption) (by assumption) (by omega) ?_
 intro c3 ec3 hc3
 cbv
 refine xsign_c hP hE (by assumption) (by omega) ?_
 intro m4 em4
 cbv
 rw [e0, em4]; rfl
theorem yor_c {P' : Program} {E : Env} (hP : P' = Tryz.prog) (hE : E = Env.std) {hh : List Blk} {K : AV -> List Blk -> Prop} {an0 an1 : Bool} {au0 ad0 au1 ad1 : ByteArray} {A : Pq} {k : Nat} {bn0 bn1 : Bool} {bu0 bd0 bu1 bd1 : ByteArray} {B : Pq} {cn0 cn1 : Bool} {cu0 cd0 cu1 cd1 : ByteArray} {C : Pq} (ha : IsP k ⟨⟨an0, au0, ad0⟩, ⟨an1, au1, ad1⟩⟩ A) (hb : IsP k ⟨⟨bn0, bu0, bd0⟩, ⟨bn1, bu1, bd1⟩⟩ B) (hc : IsP k ⟨⟨cn0, cu0, cd0⟩, ⟨cn1, cu1, cd1⟩⟩ C) (h : 16 * k + 16 <= 134217728) (hk : ∀ r0 : Int, r0 = orQ A B C -> K (.v (.int .i64 r0)) hh) : CallTo P' hh 103 [.v (.agg #[.bool an0, .string au0, .string ad0, .bool an1, .string au1, .string ad1]), .v (.agg #[.bool bn0, .string bu0, .string bd0, .bool bn1, .string bu1, .string bd1]), .v (.agg #[.bool cn0, .string cu0, .string cd0, .bool cn1, .string cu1, .string cd1])] K := by
 refine CallTo.con hP hE (yor_q ha hb hc h) ⟨rfl, rfl, rfl, trivial⟩ ?_
 have := hk _ rfl
 simp only [outV, outW, List.append_nil]
 exact this
end Go.Proofs.YtfdealobplcboaaGreat.Sx

set_option linter.unusedVariables false
set_option linter.unusedSimpArgs false
set_option maxRecDepth 100000
set_option maxHeartbeats 4000000
namespace Go.Proofs.YtfdealobplcboaaGreat.Sx
theorem ord_ord (s : Sq) : ordS (ordS s) = ordS s := by
 have h : ¬ 0 < cmpP (ordS s).a (ordS s).b := fun c => leP_lt.2 c (ordS_le s)
 rw [ordS, if_neg h]
/-- The union of two segments of a line: its error, and what it is. -/
def joinE (s t : Sq) : Int := if wrongQ s t = true then 12 else if orQ s.a s.b t.a ≠ 0 \/ orQ s.a s.b t.b ≠ 0 then 9 else if (meetQ s t).isSome = true then 0 else 11
def joinS (s t : Sq) : Sq := if joinE s t = 0 then ⟨lsP (ordS s).a (ordS t).a, grP (ordS s).b (ordS t).b⟩ else Sq.zero
def joinR (s t : Sq) : Int := if wrongQ s t = true then 12 else if orQ s.a s.b t.a ≠ 0 \/ orQ s.a s.b t.b ≠ 0 then 9 else if cmpP (ordS s).b (ordS t).a < 0 \/ cmpP (ordS t).b (ordS s).a < 0 then 11 else 0
theorem cmpP_neg {p q : Pq} : cmpP p q < 0 ↔ ¬ leP q p := by
 rw [leP_lt, cmpP_gt, cmpP_lt]; grind
theorem joinR_eq (s t : Sq) : joinR s t = joinE s t := by
 unfold joinR joinE
 by_cases hw : wrongQ s t = true
 ·rw [if_pos hw, if_pos hw]
 ·rw [if_neg hw, if_neg hw]
  by_cases ho : orQ s.a s.b t.a ≠ 0 \/ orQ s.a s.b t.b ≠ 0
  ·rw [if_pos ho, if_pos ho]
  ·rw [if_neg ho, if_neg ho]
   have h1 : (s.b.sub s.a).cross (t.a.sub s.a) = 0 := cmpQ_eq.1 (Classical.not_not.1 fun h => ho (.inl h))
   have h2 : (s.b.sub s.a).cross (t.b.sub s.a) = 0 := cmpQ_eq.1 (Classical.not_not.1 fun h => ho (.inr h))
   have hd : (s.b.sub s.a).cross (t.b.sub t.a) = 0 := by
    simp only [Pq.sub, Pq.cross] at h1 h2 ⊢; grind
   have hm : (meetQ s t).isSome = true ↔ ¬ (cmpP (ordS s).b (ordS t).a < 0 \/ cmpP (ordS t).b (ordS s).a < 0) := by
    unfold meetQ
    rw [if_neg (fun h => h (cmpQ_eq.2 hd)), if_neg (fun h => h (cmpQ_eq.2 h1))]
    have l1 := ordS_le s
    have l2 := ordS_le t
    have key : ¬ cmpP (grP (ordS s).a (ordS t).a) (lsP (ordS s).b (ordS t).b) > 0 ↔ leP (ordS t).a (ordS s).b /\ leP (ordS s).a (ordS t).b := by
     have : ¬ cmpP (grP (ordS s).a (ordS t).a) (lsP (ordS s).b (ordS t).b) > 0 ↔ leP (grP (ordS s).a (ordS t).a) (lsP (ordS s).b (ordS t).b) := by
      rw [<- leP_cmp]; omega
     rw [this, gr_le, ls_le, ls_le]
     exact ⟨fun h => ⟨h.2.1, h.1.2⟩, fun h => ⟨⟨l1, h.2⟩, ⟨h.1, l2⟩⟩⟩
    rw [cmpP_neg, cmpP_neg, not_or, Classical.not_not, Classical.not_not, <- key]
    split
    ·rename_i h; simp [h]
    ·rename_i h; simp [h]
   by_cases c : cmpP (ordS s).b (ordS t).a < 0 \/ cmpP (ordS t).b (ordS s).a < 0
   ·rw [if_pos c, if_neg (fun h => hm.1 h c)]
   ·rw [if_neg c, if_pos (hm.2 c)]
end Go.Proofs.YtfdealobplcboaaGreat.Sx

set_option linter.unusedVariables false
set_option linter.unusedSimpArgs false
set_option maxRecDepth 100000
set_option maxHeartbeats 8000000
namespace Go.Proofs.YtfdealobplcboaaGreat.Sx
theorem BdS.join {k : Nat} {s t : Sq} (hs : BdS k s) (ht : BdS k t) (hk : 1 <= k) : BdS k (joinS s t) := by
 unfold joinS; split
 ·exact ⟨hs.ord.a.ls ht.ord.a, hs.ord.b.gr ht.ord.b⟩
 ·exact BdS.zero hk
theorem ycan_q {a : Pt} {A : Pq} {k : Nat} (ha : IsP k a A) (h : k + 1 <= 134217728) : Con Tryz.prog 113 [.v a.v] (.v ((crP (A)).v)) := by
 obtain ⟨⟨an0, au0, ad0⟩, ⟨an1, au1, ad1⟩⟩ := a
 have hax : Is k ⟨an0, au0, ad0⟩ A.x := ha.x
 have hay : Is k ⟨an1, au1, ad1⟩ A.y := ha.y
 obtain ⟨r0, e0⟩ : ∃ r, r = crP (A) := ⟨_, rfl⟩
 rw [<- e0]
 have hz := IsP.zero
 refine Con.of ttOk mixed Tryz.func113 {} .nil 0 (by kernel_rfl) (fun P' E hP hE => ?_)
 cbv
 refine yadd_c hP hE (by assumption) (by assumption) (by omega) ?_
 intro c1 ec1 hc1 hc1x hc1y
 cbv
 rw [Pq.add_zero] at ec1
 rw [e0, ec1]
theorem ycan_c {P' : Program} {E : Env} (hP : P' = Tryz.prog) (hE : E = Env.std) {hh : List Blk} {K : AV -> List Blk -> Prop} {an0 an1 : Bool} {au0 ad0 au1 ad1 : ByteArray} {A : Pq} {k : Nat} (ha : IsP k ⟨⟨an0, au0, ad0⟩, ⟨an1, au1, ad1⟩⟩ A) (h : k + 1 <= 134217728) (hk : ∀ r0 : Pt, r0 = crP (A) -> IsP (k) r0 (A) -> Is (k) r0.x (A).x -> Is (k) r0.y (A).y -> K (.v (r0.v)) hh) : CallTo P' hh 113 [.v (.agg #[.bool an0, .string au0, .string ad0, .bool an1, .string au1, .string ad1])] K := by
 refine CallTo.con hP hE (ycan_q ha h) ⟨rfl, trivial⟩ ?_
 have := hk _ rfl (ha.b).is (ha.b).is.x (ha.b).is.y
 simp only [outV, outW, List.append_nil]
 exact this
theorem ychk_q {a : Sg} {S : Sq} {k : Nat} (ha : IsS k a S) (h : 2 * k <= 134217728) : Con Tryz.prog 35 [.v a.v] (.v (.int .i64 (chkQ S))) := by
 obtain ⟨⟨⟨an0, au0, ad0⟩, ⟨an1, au1, ad1⟩⟩, ⟨⟨an2, au2, ad2⟩, ⟨an3, au3, ad3⟩⟩⟩ := a
 have haa : IsP k ⟨⟨an0, au0, ad0⟩, ⟨an1, au1, ad1⟩⟩ S.a := ha.a
 have hab : IsP k ⟨⟨an2, au2, ad2⟩, ⟨an3, au3, ad3⟩⟩ S.b := ha.b
 have haax : Is k ⟨an0, au0, ad0⟩ S.a.x := ha.a.x
 have haay : Is k ⟨an1, au1, ad1⟩ S.a.y := ha.a.y
 have habx : Is k ⟨an2, au2, ad2⟩ S.b.x := ha.b.x
 have haby : Is k ⟨an3, au3, ad3⟩ S.b.y := ha.b.y
 obtain ⟨r0, e0⟩ : ∃ r, r = chkQ S := ⟨_, rfl⟩
 rw [<- e0]
 refine Con.of ttOk mixed Tryz.func35 {} .nil 0 (by kernel_rfl) (fun P' E hP hE => ?_)
 cbv
 refine ycmp_c hP hE (by assumption) (by assumption) (by omega) ?_
 intro m1 em1
 cbv
 refine fork.mk ?_ ?_
 ·intro k1
  cbv
  subst hE
  simp [Env.std] at k1
  simp [e0, chkQ, <- em1, k1]
 ·intro k1
  cbv
  subst hE
  simp [Env.std] at k1
  simp [e0, chkQ, <- em1, k1]
theorem ychk_c {P' : Program} {E : Env} (hP : P' = Tryz.prog) (hE : E = Env.std) {hh : List Blk} {K : AV -> List Blk -> Prop} {an0 an1 an2 an3 : Bool} {au0 ad0 au1 ad1 au2 ad2 au3 ad3 : ByteArray} {S : Sq} {k : Nat} (ha : IsS k ⟨⟨⟨an0, au0, ad0⟩, ⟨an1, au1, ad1⟩⟩, ⟨⟨an2, au2, ad2⟩, ⟨an3, au3, ad3⟩⟩⟩ S) (h : 2 * k <= 134217728) (hk : ∀ r0 : Int, r0 = chkQ S -> K (.v (.int .i64 r0)) hh) : CallTo P' hh 35 [.v (.agg #[.bool an0, .string au0, .string ad0, .bool an1, .string au1, .string ad1, .bool an2, .string au2, .string ad2, .bool an3, .string au3, .string ad3])] K := by
 refine CallTo.con hP hE (ychk_q ha h) ⟨rfl, trivial⟩ ?_
 have := hk _ rfl
 simp only [outV, outW, List.append_nil]
 exact this
theorem yord_q {a : Sg} {S : Sq} {k : Nat} (ha : IsS k a S) (h : 2 * k + 1 <= 134217728) : Con Tryz.prog 37 [.v a.v] (.v ((crS (ordS S)).v)) := by
 obtain ⟨⟨⟨an0, au0, ad0⟩, ⟨an1, au1, ad1⟩⟩, ⟨⟨an2, au2, ad2⟩, ⟨an3, au3, ad3⟩⟩⟩ := a
 have haa : IsP k ⟨⟨an0, au0, ad0⟩, ⟨an1, au1, ad1⟩⟩ S.a := ha.a
 have hab : IsP k ⟨⟨an2, au2, ad2⟩, ⟨an3, au3, ad3⟩⟩ S.b := ha.b
 have haax : Is k ⟨an0, au0, ad0⟩ S.a.x := ha.a.x
 have haay : Is k ⟨an1, au1, ad1⟩ S.a.y := ha.a.y
 have habx : Is k ⟨an2, au2, ad2⟩ S.b.x := ha.b.x
 have haby : Is k ⟨an3, au3, ad3⟩ S.b.y := ha.b.y
 obtain ⟨r0, e0⟩ : ∃ r, r = crS (ordS S) := ⟨_, rfl⟩
 rw [<- e0]
 refine Con.of ttOk mixed Tryz.func37 { ord := [(2, [0, 1, 3, 4, 2, 5, 6, 7]), (3, [0, 1, 3, 4, 2, 5, 6, 7])] } .nil 0 (by kernel_rfl) (fun P' E hP hE => ?_)
 cbv
 refine ycmp_c hP hE (by assumption) (by assumption) (by omega) ?_
 intro m1 em1
 cbv
 refine fork.mk ?_ ?_
 ·intro g1
  cbv
  refine ycan_c hP hE (by assumption) (by omega) ?_
  intro c1 ec1 hc1 hc1x hc1y
  cbv
  refine ycan_c hP hE (by assumption) (by omega) ?_
  intro c2 ec2 hc2 hc2x hc2y
  cbv
  subst hE
  simp [Env.std] at g1
  rw [e0, ordS, if_pos (by rw [<- em1]; exact g1), ec1, ec2]; rfl
 ·intro g1
  cbv
  refine ycan_c hP hE (by assumption) (by omega) ?_
  intro c1 ec1 hc1 hc1x hc1y
  cbv
  refine ycan_c hP hE (by assumption) (by omega) ?_
  intro c2 ec2 hc2 hc2x hc2y
  cbv
  subst hE
  simp [Env.std] at g1
  rw [e0, ordS, if_neg (by rw [<- em1]; omega), ec1, ec2]; rfl
theorem yord_p {a : Sg} {S : Sq} {k : Nat} (ha : IsS k a S) (h : 2 * k + 1 <= 134217728) : ∃ (r0 : Sg), r0 = crS (ordS S) /\ IsS (k) r0 (ordS S) /\ Con Tryz.prog 37 [.v a.v] (.v (r0.v)) := ⟨_, rfl, (ha.bd.ord).is, yord_q ha h⟩
theorem ygr_q {a : Pt} {A : Pq} {k : Nat} {b : Pt} {B : Pq} (ha : IsP k a A) (ea : a = crP A) (hb : IsP k b B) (eb : b = crP B) (h : 2 * k <= 134217728) : Con Tryz.prog 104 [.v a.v, .v b.v] (.v ((crP (grP A B)).v)) := by
 obtain ⟨⟨an0, au0, ad0⟩, ⟨an1, au1, ad1⟩⟩ := a
 have hax : Is k ⟨an0, au0, ad0⟩ A.x := ha.x
 have hay : Is k ⟨an1, au1, ad1⟩ A.y := ha.y
 obtain ⟨⟨bn0, bu0, bd0⟩, ⟨bn1, bu1, bd1⟩⟩ := b
 have hbx : Is k ⟨bn0, bu0, bd0⟩ B.x := hb.x
 have hby : Is k ⟨bn1, bu1, bd1⟩ B.y := hb.y
 obtain ⟨r0, e0⟩ : ∃ r, r = crP (grP A B) := ⟨_, rfl⟩
 rw [<- e0]
 refine Con.of ttOk mixed Tryz.func104 {} .nil 0 (by kernel_rfl) (fun P' E hP hE => ?_)
 cbv
 refine ycmp_c hP hE (by assumption) (by assumption) (by omega) ?_
 intro m1 em1
 cbv
 refine fork.mk ?_ ?_
 ·intro k1
  cbv
  subst hE
  simp [Env.std] at k1
  rw [e0, grP, if_pos (by rw [<- em1]; exact k1), <- eb]
 ·intro k1
  cbv
  subst hE
  simp [Env.std] at k1
  rw [e0, grP, if_neg (by rw [<- em1]; omega), <- ea]
theorem ygr_p {a : Pt} {A : Pq} {k : Nat} {b : Pt} {B : Pq} (ha : IsP k a A) (ea : a = crP A) (hb : IsP k b B) (eb : b = crP B) (h : 2 * k <= 134217728) : ∃ (r0 : Pt), r0 = crP (grP A B) /\ IsP (k) r0 (grP A B) /\ Con Tryz.prog 104 [.v a.v, .v b.v] (.v (r0.v)) := ⟨_, rfl, (ha.b.gr hb.b).is, ygr_q ha ea hb eb h⟩
theorem yls_q {a : Pt} {A : Pq} {k : Nat} {b : Pt} {B : Pq} (ha : IsP k a A) (ea : a = crP A) (hb : IsP k b B) (eb : b = crP B) (h : 2 * k <= 134217728) : Con Tryz.prog 105 [.v a.v, .v b.v] (.v ((crP (lsP A B)).v)) := by
 obtain ⟨⟨an0, au0, ad0⟩, ⟨an1, au1, ad1⟩⟩ := a
 have hax : Is k ⟨an0, au0, ad0⟩ A.x := ha.x
 have hay : Is k ⟨an1, au1, ad1⟩ A.y := ha.y
 obtain ⟨⟨bn0, bu0, bd0⟩, ⟨bn1, bu1, bd1⟩⟩ := b
 have hbx : Is k ⟨bn0, bu0, bd0⟩ B.x := hb.x
 have hby : Is k ⟨bn1, bu1, bd1⟩ B.y := hb.y
 obtain ⟨r0, e0⟩ : ∃ r, r = crP (lsP A B) := ⟨_, rfl⟩
 rw [<- e0]
 refine Con.of ttOk mixed Tryz.func105 {} .nil 0 (by kernel_rfl) (fun P' E hP hE => ?_)
 cbv
 refine ycmp_c hP hE (by assumption) (by assumption) (by omega) ?_
 intro m1 em1
 cbv
 refine fork.mk ?_ ?_
 ·intro k1
  cbv
  subst hE
  simp [Env.std] at k1
  rw [e0, lsP, if_pos (by rw [<- em1]; exact k1), <- ea]
 ·intro k1
  cbv
  subst hE
  simp [Env.std] at k1
  rw [e0, lsP, if_neg (by rw [<- em1]; omega), <- eb]
theorem yls_p {a : Pt} {A : Pq} {k : Nat} {b : Pt} {B : Pq} (ha : IsP k a A) (ea : a = crP A) (hb : IsP k b B) (eb : b = crP B) (h : 2 * k <= 134217728) : ∃ (r0 : Pt), r0 = crP (lsP A B) /\ IsP (k) r0 (lsP A B) /\ Con Tryz.prog 105 [.v a.v, .v b.v] (.v (r0.v)) := ⟨_, rfl, (ha.b.ls hb.b).is, yls_q ha ea hb eb h⟩
end Go.Proofs.YtfdealobplcboaaGreat.Sx

set_option linter.unusedVariables false
set_option linter.unusedSimpArgs false
set_option maxRecDepth 100000
set_option maxHeartbeats 8000000
namespace Go.Proofs.YtfdealobplcboaaGreat.Sx
theorem yjoin_q {a : Sg} {S : Sq} {k : Nat} {b : Sg} {T : Sq} (ha : IsS k a S) (hb : IsS k b T) (h : 40 * k + 40 <= 134217728) : Con Tryz.prog 34 [.v a.v, .v b.v] (.v (.tuple #[(crS (joinS S T)).v, .int .i64 (joinE S T)])) := by
 obtain ⟨⟨⟨an0, au0, ad0⟩, ⟨an1, au1, ad1⟩⟩, ⟨⟨an2, au2, ad2⟩, ⟨an3, au3, ad3⟩⟩⟩ := a
 have haa : IsP k ⟨⟨an0, au0, ad0⟩, ⟨an1, au1, ad1⟩⟩ S.a := ha.a
 have hab : IsP k ⟨⟨an2, au2, ad2⟩, ⟨an3, au3, ad3⟩⟩ S.b := ha.b
 have haax : Is k ⟨an0, au0, ad0⟩ S.a.x := ha.a.x
 have haay : Is k ⟨an1, au1, ad1⟩ S.a.y := ha.a.y
 have habx : Is k ⟨an2, au2, ad2⟩ S.b.x := ha.b.x
 have haby : Is k ⟨an3, au3, ad3⟩ S.b.y := ha.b.y
 obtain ⟨⟨⟨bn0, bu0, bd0⟩, ⟨bn1, bu1, bd1⟩⟩, ⟨⟨bn2, bu2, bd2⟩, ⟨bn3, bu3, bd3⟩⟩⟩ := b
 have hba : IsP k ⟨⟨bn0, bu0, bd0⟩, ⟨bn1, bu1, bd1⟩⟩ T.a := hb.a
 have hbb : IsP k ⟨⟨bn2, bu2, bd2⟩, ⟨bn3, bu3, bd3⟩⟩ T.b := hb.b
 have hbax : Is k ⟨bn0, bu0, bd0⟩ T.a.x := hb.a.x
 have hbay : Is k ⟨bn1, bu1, bd1⟩ T.a.y := hb.a.y
 have hbbx : Is k ⟨bn2, bu2, bd2⟩ T.b.x := hb.b.x
 have hbby : Is k ⟨bn3, bu3, bd3⟩ T.b.y := hb.b.y
 obtain ⟨r0, e0⟩ : ∃ r, r = crS (joinS S T) := ⟨_, rfl⟩
 rw [<- e0]
 obtain ⟨r1, e1⟩ : ∃ r, r = joinE S T := ⟨_, rfl⟩
 rw [<- e1]
 obtain ⟨os, eos, hos, kos⟩ := yord_p ha (by omega)
 obtain ⟨ot, eot, hot, kot⟩ := yord_p hb (by omega)
 have hosa : IsP k os.a (ordS S).a := hos.a
 have hosb : IsP k os.b (ordS S).b := hos.b
 have hota : IsP k ot.a (ordS T).a := hot.a
 have hotb : IsP k ot.b (ordS T).b := hot.b
 obtain ⟨a, eaa, haa1, kaa⟩ := yls_p hosa (by rw [eos]; rfl) hota (by rw [eot]; rfl) (by omega)
 obtain ⟨b, ebb, hbb1, kbb⟩ := ygr_p hosb (by rw [eos]; rfl) hotb (by rw [eot]; rfl) (by omega)
 have fin : ∀ i, joinR S T = i -> r1 = i /\ r0 = if i = 0 then ⟨a, b⟩ else crS Sq.zero := by
  intro i hi
  rw [joinR_eq] at hi
  rw [e0, e1, joinS, hi, eaa, ebb]
  refine ⟨rfl, ?_⟩
  split
  ·rfl
  ·rfl
 have q12 : chkQ S ≠ 0 \/ chkQ T ≠ 0 -> joinR S T = 12 := by
  intro h
  have hm : wrongQ S T = true := decide_eq_true h
  rw [joinR, if_pos hm]
 have q9 : chkQ S = 0 -> chkQ T = 0 -> (orQ S.a S.b T.a ≠ 0 \/ orQ S.a S.b T.b ≠ 0) -> joinR S T = 9 := by
  intro h1 h2 h
  have hm : ¬ wrongQ S T = true := by unfold wrongQ; simp [h1, h2]
  rw [joinR, if_neg hm, if_pos h]
 have q11 : chkQ S = 0 -> chkQ T = 0 -> ¬ (orQ S.a S.b T.a ≠ 0 \/ orQ S.a S.b T.b ≠ 0) -> cmpP (ordS S).b (ordS T).a < 0 \/ cmpP (ordS T).b (ordS S).a < 0 -> joinR S T = 11 := by
  intro h1 h2 h h3
  have hm : ¬ wrongQ S T = true := by unfold wrongQ; simp [h1, h2]
  rw [joinR, if_neg hm, if_neg h, if_pos h3]
 have q0 : chkQ S = 0 -> chkQ T = 0 -> ¬ (orQ S.a S.b T.a ≠ 0 \/ orQ S.a S.b T.b ≠ 0) -> ¬ (cmpP (ordS S).b (ordS T).a < 0 \/ cmpP (ordS T).b (ordS S).a < 0) -> joinR S T = 0 := by
  intro h1 h2 h h3
  have hm : ¬ wrongQ S T = true := by unfold wrongQ; simp [h1, h2]
  rw [joinR, if_neg hm, if_neg h, if_neg h3]
 clear e0 e1
 refine Con.of ttOk mixed Tryz.func34 { ord := [(5, [0, 2, 1, 3, 4, 5]), (8, [0, 1, 2, 3, 5, 6, 7, 8, 4, 9, 10, 11, 12])] } .nil 0 (by kernel_rfl) (fun P' E hP hE => ?_)
 cbv
 refine ychk_c hP hE ha (by omega) ?_
 intro m1 em1
 cbv
 refine fork.mk ?_ ?_
 ·intro g1
  have q := fin 12 (q12 (.inl (by subst hE; simp [Env.std] at g1; rw [<- em1]; exact g1)))
  cbv
  rw [q.1, q.2]
  show _ = Value.tuple #[(crS Sq.zero).v, _]
  rw [crS_zero]
 ·intro g1
  have h1 : chkQ S = 0 := by subst hE; simp [Env.std] at g1; rw [<- em1]; exact g1
  cbv
  refine ychk_c hP hE hb (by omega) ?_
  intro m2 em2
  cbv
  refine fork.mk ?_ ?_
  ·intro g2
   have q := fin 12 (q12 (.inr (by subst hE; simp [Env.std] at g2; rw [<- em2]; exact g2)))
   cbv
   rw [q.1, q.2]
   show _ = Value.tuple #[(crS Sq.zero).v, _]
   rw [crS_zero]
  ·intro g2
   have h2 : chkQ T = 0 := by subst hE; simp [Env.std] at g2; rw [<- em2]; exact g2
   have q9 := q9 h1 h2
   have q11 := q11 h1 h2
   have q0 := q0 h1 h2
   clear q12 em1 em2 g1 g2
   cbv
   refine yor_c hP hE ha.a ha.b hb.a (by omega) ?_
   intro m3 em3
   cbv
   have no9 : m3 ≠ 0 -> _ := fun h => fin 9 (q9 (.inl (em3 ▸ h)))
   refine fork.mk ?_ ?_
   ·intro g3
    have q := no9 (by subst hE; exact of_decide_eq_true (show decide (m3 ≠ 0) = true from by simpa [Env.std] using g3))
    cbv
    rw [q.1, q.2]
    show _ = Value.tuple #[(crS Sq.zero).v, _]
    rw [crS_zero]
   ·intro g3
    have g3 : m3 = 0 := by subst hE; simpa [Env.std] using g3
    cbv
    refine yor_c hP hE ha.a ha.b hb.b (by omega) ?_
    intro m4 em4
    cbv
    refine fork.mk ?_ ?_
    ·intro g4
     have q := fin 9 (q9 (.inr (by rw [<- em4]; subst hE; simpa [Env.std] using g4)))
     cbv
     rw [q.1, q.2]
     show _ = Value.tuple #[(crS Sq.zero).v, _]
     rw [crS_zero]
    ·intro g4
     have g4 : m4 = 0 := by subst hE; simpa [Env.std] using g4
     have ho : ¬ (orQ S.a S.b T.a ≠ 0 \/ orQ S.a S.b T.b ≠ 0) := by
      rw [<- em3, <- em4]; omega
     have q11 := q11 ho
     have q0 := q0 ho
     clear q9 no9 ho em3 em4 g3 g4
     cbv
     refine CallTo.w hP hE kos ⟨rfl, trivial⟩ ?_
     cbv
     refine CallTo.w hP hE kot ⟨rfl, trivial⟩ ?_
     cbv
     refine ycmp_c hP hE hosb hota (by omega) ?_
     intro m5 em5
     cbv
     refine fork.mk ?_ ?_
     ·intro g5
      have q := fin 11 (q11 (.inl (by rw [<- em5]; subst hE; exact of_decide_eq_true (show decide (m5 < 0) = true from g5))))
      cbv
      rw [q.1, q.2]
      show _ = Value.tuple #[(crS Sq.zero).v, _]
      rw [crS_zero]
     ·intro g5
      have g5 : ¬ m5 < 0 := by subst hE; exact of_decide_eq_false (show decide (m5 < 0) = false from g5)
      cbv
      refine ycmp_c hP hE hotb hosa (by omega) ?_
      intro m6 em6
      cbv
      refine fork.mk ?_ ?_
      ·intro g6
       have q := fin 11 (q11 (.inr (by rw [<- em6]; subst hE; exact of_decide_eq_true (show decide (m6 < 0) = true from g6))))
       cbv
       rw [q.1, q.2]
       show _ = Value.tuple #[(crS Sq.zero).v, _]
       rw [crS_zero]
      ·intro g6
       have g6 : ¬ m6 < 0 := by subst hE; exact of_decide_eq_false (show decide (m6 < 0) = false from g6)
       have q := fin 0 (q0 (by rw [<- em5, <- em6]; omega))
       rw [q.1, q.2, if_pos rfl]
       clear q fin q0 q11
       cbv
       try refine DrawTo.run ?_
       try cbv
       repeat' first
        | exact True.intro
        | (refine Both.mk ?_ ?_ <;> cbv)
        | (refine CallTo.w hP hE kaa ⟨rfl, rfl, trivial⟩ ?_; cbv)
        | (refine CallTo.w hP hE kbb ⟨rfl, rfl, trivial⟩ ?_; cbv)
        | (simp only [and_self]; done)
theorem sjoin_q {a : Sg} {S : Sq} {k : Nat} {b : Sg} {T : Sq} (ha : IsS k a S) (hb : IsS k b T) (h : 40 * k + 40 <= 134217728) : Con Tryz.prog 33 [.v a.v, .v b.v] (.v (.tuple #[(crS (joinS S T)).v, .int .i64 (joinE S T)])) := by
 obtain ⟨⟨⟨an0, au0, ad0⟩, ⟨an1, au1, ad1⟩⟩, ⟨⟨an2, au2, ad2⟩, ⟨an3, au3, ad3⟩⟩⟩ := a
 have haa : IsP k ⟨⟨an0, au0, ad0⟩, ⟨an1, au1, ad1⟩⟩ S.a := ha.a
 have hab : IsP k ⟨⟨an2, au2, ad2⟩, ⟨an3, au3, ad3⟩⟩ S.b := ha.b
 have haax : Is k ⟨an0, au0, ad0⟩ S.a.x := ha.a.x
 have haay : Is k ⟨an1, au1, ad1⟩ S.a.y := ha.a.y
 have habx : Is k ⟨an2, au2, ad2⟩ S.b.x := ha.b.x
 have haby : Is k ⟨an3, au3, ad3⟩ S.b.y := ha.b.y
 obtain ⟨⟨⟨bn0, bu0, bd0⟩, ⟨bn1, bu1, bd1⟩⟩, ⟨⟨bn2, bu2, bd2⟩, ⟨bn3, bu3, bd3⟩⟩⟩ := b
 have hba : IsP k ⟨⟨bn0, bu0, bd0⟩, ⟨bn1, bu1, bd1⟩⟩ T.a := hb.a
 have hbb : IsP k ⟨⟨bn2, bu2, bd2⟩, ⟨bn3, bu3, bd3⟩⟩ T.b := hb.b
 have hbax : Is k ⟨bn0, bu0, bd0⟩ T.a.x := hb.a.x
 have hbay : Is k ⟨bn1, bu1, bd1⟩ T.a.y := hb.a.y
 have hbbx : Is k ⟨bn2, bu2, bd2⟩ T.b.x := hb.b.x
 have hbby : Is k ⟨bn3, bu3, bd3⟩ T.b.y := hb.b.y
 obtain ⟨r0, e0⟩ : ∃ r, r = crS (joinS S T) := ⟨_, rfl⟩
 rw [<- e0]
 obtain ⟨r1, e1⟩ : ∃ r, r = joinE S T := ⟨_, rfl⟩
 rw [<- e1]
 obtain ⟨os, eos, hos, kos⟩ := sord_p ha (by omega)
 obtain ⟨ot, eot, hot, kot⟩ := sord_p hb (by omega)
 have hosa : IsP k os.a (ordS S).a := hos.a
 have hosb : IsP k os.b (ordS S).b := hos.b
 have hota : IsP k ot.a (ordS T).a := hot.a
 have hotb : IsP k ot.b (ordS T).b := hot.b
 obtain ⟨a, eaa, haa1, kaa⟩ := les_p hosa (by rw [eos]; rfl) hota (by rw [eot]; rfl) (by omega)
 obtain ⟨b, ebb, hbb1, kbb⟩ := grt_p hosb (by rw [eos]; rfl) hotb (by rw [eot]; rfl) (by omega)
 obtain ⟨w, ew, kw⟩ := wrong_p ha hb (by omega)
 obtain ⟨m, mb, em, hm, emb, km⟩ := meet0_p ha hb (by omega)
 have fin : ∀ i, joinE S T = i -> r1 = i /\ r0 = if i = 0 then ⟨a, b⟩ else crS Sq.zero := by
  intro i hi
  rw [e0, e1, joinS, hi, eaa, ebb]
  refine ⟨rfl, ?_⟩
  split
  ·rfl
  ·rfl
 have q12 : w = true -> joinE S T = 12 := by
  intro h
  rw [joinE, if_pos (ew ▸ h)]
 have q9 : w = false -> (orQ S.a S.b T.a ≠ 0 \/ orQ S.a S.b T.b ≠ 0) -> joinE S T = 9 := by
  intro h1 h
  rw [joinE, if_neg (by rw [<- ew, h1]; decide), if_pos h]
 have q0 : w = false -> ¬ (orQ S.a S.b T.a ≠ 0 \/ orQ S.a S.b T.b ≠ 0) -> joinE S T = if mb = true then 0 else 11 := by
  intro h1 h
  rw [joinE, if_neg (by rw [<- ew, h1]; decide), if_neg h, <- emb]
 clear e0 e1 ew em emb
 refine Con.of ttOk mixed Tryz.func33 { ord := [(8, [0, 2, 1, 3, 4, 5]), (9, [0, 1, 2, 3, 5, 6, 7, 8, 4, 9, 10, 11, 12])] } .nil 0 (by kernel_rfl) (fun P' E hP hE => ?_)
 cbv
 refine CallTo.w hP hE kw ⟨rfl, rfl, trivial⟩ ?_
 cbv
 refine fork.mk ?_ ?_
 ·intro g1
  have q := fin 12 (q12 g1)
  cbv
  rw [q.1, q.2]
  show _ = Value.tuple #[(crS Sq.zero).v, _]
  rw [crS_zero]
 ·intro g1
  have q9 := q9 g1
  have q0 := q0 g1
  clear q12 g1
  cbv
  refine orient_c hP hE ha.a ha.b hb.a (by omega) ?_
  intro m3 em3
  cbv
  have no9 : m3 ≠ 0 -> _ := fun h => fin 9 (q9 (.inl (em3 ▸ h)))
  refine fork.mk ?_ ?_
  ·intro g3
   have q := no9 (by subst hE; exact of_decide_eq_true (show decide (m3 ≠ 0) = true from by simpa [Env.std] using g3))
   cbv
   rw [q.1, q.2]
   show _ = Value.tuple #[(crS Sq.zero).v, _]
   rw [crS_zero]
  ·intro g3
   have g3 : m3 = 0 := by subst hE; simpa [Env.std] using g3
   cbv
   refine orient_c hP hE ha.a ha.b hb.b (by omega) ?_
   intro m4 em4
   cbv
   refine fork.mk ?_ ?_
   ·intro g4
    have q := fin 9 (q9 (.inr (by rw [<- em4]; subst hE; simpa [Env.std] using g4)))
    cbv
    rw [q.1, q.2]
    show _ = Value.tuple #[(crS Sq.zero).v, _]
    rw [crS_zero]
   ·intro g4
    have g4 : m4 = 0 := by subst hE; simpa [Env.std] using g4
    have ho : ¬ (orQ S.a S.b T.a ≠ 0 \/ orQ S.a S.b T.b ≠ 0) := by
     rw [<- em3, <- em4]; omega
    have q0 := q0 ho
    clear q9 no9 ho em3 em4 g3 g4
    cbv
    refine CallTo.w hP hE km ⟨rfl, rfl, trivial⟩ ?_
    cbv
    refine fork.mk ?_ ?_
    ·intro g5
     have g5 : mb = false := by subst hE; simpa [Env.std] using g5
     have q := fin 11 (by rw [q0, g5]; rfl)
     cbv
     rw [q.1, q.2]
     show _ = Value.tuple #[(crS Sq.zero).v, _]
     rw [crS_zero]
    ·intro g5
     have g5 : mb = true := by subst hE; simpa [Env.std] using g5
     have q := fin 0 (by rw [q0, g5]; rfl)
     rw [q.1, q.2, if_pos rfl]
     clear q fin q0
     cbv
     refine CallTo.w hP hE kos ⟨rfl, trivial⟩ ?_
     cbv
     refine CallTo.w hP hE kot ⟨rfl, trivial⟩ ?_
     cbv
     try refine DrawTo.run ?_
     try cbv
     repeat' first
      | exact True.intro
      | (refine Both.mk ?_ ?_ <;> cbv)
      | (refine CallTo.w hP hE kaa ⟨rfl, rfl, trivial⟩ ?_; cbv)
      | (refine CallTo.w hP hE kbb ⟨rfl, rfl, trivial⟩ ?_; cbv)
      | (simp only [and_self]; done)
theorem sjoin_p {a : Sg} {S : Sq} {k : Nat} {b : Sg} {T : Sq} (ha : IsS k a S) (hb : IsS k b T) (h : 40 * k + 40 <= 134217728) : ∃ (r0 : Sg) (r1 : Int), r0 = crS (joinS S T) /\ IsS (k) r0 (joinS S T) /\ r1 = joinE S T /\ Con Tryz.prog 33 [.v a.v, .v b.v] (.v (.tuple #[r0.v, .int .i64 r1])) := ⟨_, _, rfl, (ha.bd.join hb.bd ha.a.x.b.pos).is, rfl, sjoin_q ha hb h⟩
end Go.Proofs.YtfdealobplcboaaGreat.Sx

set_option linter.unusedVariables false
set_option linter.unusedSimpArgs false
namespace Go.Proofs.YtfdealobplcboaaGreat.Sx
def ltP (p q : Pq) : Prop := cmpP p q < 0
theorem ltP_iff {p q : Pq} : ltP p q ↔ ¬ leP q p := cmpP_neg
theorem ltP_irr (p : Pq) : ¬ ltP p p := fun h => ltP_iff.1 h (leP_refl p)
theorem ltP_trans {p q r : Pq} (h : ltP p q) (h' : ltP q r) : ltP p r := by
 unfold ltP at *; rw [cmpP_lt] at *; grind
theorem ltP_tri (p q : Pq) : ltP p q \/ p = q \/ ltP q p := by
 by_cases h : leP q p
 ·by_cases h' : leP p q
  ·exact .inr (.inl (leP_anti h' h))
  ·exact .inr (.inr (ltP_iff.2 h'))
 ·exact .inl (ltP_iff.2 h)
theorem ltP_le {p q : Pq} (h : ltP p q) : leP p q := (leP_total p q).elim id fun c => absurd c (ltP_iff.1 h)
theorem leP_ne {p q : Pq} (h : leP p q) (hn : p ≠ q) : ltP p q := ltP_iff.2 fun c => hn (leP_anti h c)
/-- Strictly ascending. -/
abbrev SS (l : List Pq) : Prop := l.Pairwise ltP
/-- Ascending. -/
abbrev WS (l : List Pq) : Prop := l.Pairwise leP
theorem SS.uniq : ∀ {l l' : List Pq}, SS l -> SS l' -> (∀ x, x ∈ l ↔ x ∈ l') -> l = l'
 | [], [], _, _, _ => rfl
 | [], y :: l', _, _, h => absurd ((h y).2 (by simp)) (by simp)
 | x :: l, [], _, _, h => absurd ((h x).1 (by simp)) (by simp)
 | x :: l, y :: l', h1, h2, h => by
  have a1 := List.pairwise_cons.1 h1
  have a2 := List.pairwise_cons.1 h2
  have hxy : x = y := by
   rcases List.mem_cons.1 ((h x).1 (by simp)) with e | e
   ·exact e
   ·rcases List.mem_cons.1 ((h y).2 (by simp)) with e' | e'
    ·exact e'.symm
    ·exact absurd (ltP_trans (a1.1 y e') (a2.1 x e)) (ltP_irr x)
  subst hxy
  have : l = l' := SS.uniq a1.2 a2.2 (fun z => by
   constructor
   ·intro hz
    rcases List.mem_cons.1 ((h z).1 (by simp [hz])) with e | e
    ·subst e; exact absurd (a1.1 _ hz) (ltP_irr _)
    ·exact e
   ·intro hz
    rcases List.mem_cons.1 ((h z).2 (by simp [hz])) with e | e
    ·subst e; exact absurd (a2.1 _ hz) (ltP_irr _)
    ·exact e)
  rw [this]
/-- A point put into a strictly ascending list. -/
def insU (p : Pq) : List Pq -> List Pq
 | [] => [p]
 | x :: l => if cmpP p x < 0 then p :: x :: l else if cmpP p x = 0 then x :: l else x :: insU p l
/-- The points of a list, strictly ascending. -/
def setL (l : List Pq) : List Pq := l.foldr insU []
theorem mem_insU {p x : Pq} : ∀ {l : List Pq}, x ∈ insU p l ↔ x = p \/ x ∈ l
 | [] => by simp [insU]
 | y :: l => by
  unfold insU
  split
  ·simp
  ·split
   ·rename_i h
    have := cmpP_eq.1 h
    subst this; simp
   ·simp only [List.mem_cons, mem_insU (l := l)]
    constructor
    ·rintro (h | h | h) <;> simp [h]
    ·rintro (h | h | h) <;> simp [h]
theorem insU_ss {p : Pq} : ∀ {l : List Pq}, SS l -> SS (insU p l)
 | [], _ => by simp [insU, SS]
 | y :: l, h => by
  have a := List.pairwise_cons.1 h
  unfold insU
  split
  ·rename_i c
   exact List.pairwise_cons.2 ⟨fun x hx => by
    rcases List.mem_cons.1 hx with e | e
    ·subst e; exact c
    ·exact ltP_trans c (a.1 x e), h⟩
  ·split
   ·exact h
   ·rename_i c1 c2
    refine List.pairwise_cons.2 ⟨fun x hx => ?_, insU_ss a.2⟩
    rcases mem_insU.1 hx with e | e
    ·subst e
     rcases ltP_tri x y with q | q | q
     ·exact absurd q c1
     ·exact absurd (cmpP_eq.2 q) c2
     ·exact q
    ·exact a.1 x e
theorem setL_ss : ∀ (l : List Pq), SS (setL l)
 | [] => List.Pairwise.nil
 | p :: l => insU_ss (setL_ss l)
theorem mem_setL {x : Pq} : ∀ {l : List Pq}, x ∈ setL l ↔ x ∈ l
 | [] => by simp [setL]
 | p :: l => by
  show x ∈ insU p (setL l) ↔ _
  rw [mem_insU, mem_setL (l := l), List.mem_cons]
theorem setL_eq {l l' : List Pq} (h : SS l') (hm : ∀ x, x ∈ l' ↔ x ∈ l) : l' = setL l :=
 SS.uniq h (setL_ss l) (fun x => by rw [hm, mem_setL])
/-- Is a point the last one? -/
def lastIs (l : List Pq) (p : Pq) : Bool := match l.getLast? with
 | none => false
 | some q => decide (cmpP p q = 0)
/-- A list without what stands twice, one behind the other: point after point. -/
def ddS (acc : List Pq) (p : Pq) : List Pq := if lastIs acc p = true then acc else acc ++ [p]
def dd (l : List Pq) : List Pq := l.foldl ddS []
theorem dd_snoc (l : List Pq) (p : Pq) : dd (l ++ [p]) = ddS (dd l) p := by unfold dd; rw [List.foldl_append]; rfl
theorem ddS_last (acc : List Pq) (p : Pq) : (ddS acc p).getLast? = some p := by
 unfold ddS
 by_cases h : lastIs acc p = true
 ·rw [if_pos h]
  unfold lastIs at h
  cases e : acc.getLast? with
  | none => rw [e] at h; cases h
  | some q =>
   rw [e] at h
   have := cmpP_eq.1 (of_decide_eq_true h)
   rw [this]
 ·rw [if_neg h]; simp
theorem dd_last (l : List Pq) (p : Pq) : (dd (l ++ [p])).getLast? = some p := by rw [dd_snoc]; exact ddS_last _ _
theorem mem_ddS {acc : List Pq} {p x : Pq} : x ∈ ddS acc p ↔ x ∈ acc \/ x = p := by
 have hl := List.mem_of_getLast? (ddS_last acc p)
 unfold ddS at *
 by_cases h : lastIs acc p = true
 ·rw [if_pos h] at *
  exact ⟨.inl, fun c => c.elim id fun e => e ▸ hl⟩
 ·rw [if_neg h]; simp
theorem mem_dd {x : Pq} (l : List Pq) : x ∈ dd l ↔ x ∈ l := by
 have key : ∀ (l acc : List Pq), x ∈ l.foldl ddS acc ↔ x ∈ acc \/ x ∈ l := by
  intro l
  induction l with
  | nil => intro acc; simp
  | cons p l ih =>
   intro acc
   rw [List.foldl_cons, ih, mem_ddS, List.mem_cons, or_assoc]
 unfold dd
 rw [key]; simp
/-- Of a list that ascends, or descends, each point is left once. -/
theorem dd_by {le : Pq -> Pq -> Prop} (hrefl : ∀ p, le p p) (hanti : ∀ {p q}, le p q -> le q p -> p = q) {l : List Pq} (h : l.Pairwise le) : (dd l).Pairwise (fun x y => le x y /\ x ≠ y) := by
 have key : ∀ (l acc : List Pq), acc.Pairwise (fun x y => le x y /\ x ≠ y) -> (∀ x ∈ acc, ∀ y ∈ l, le x y) -> l.Pairwise le -> (∀ y, acc.getLast? = some y -> ∀ x ∈ acc, le x y) -> (l.foldl ddS acc).Pairwise (fun x y => le x y /\ x ≠ y) := by
  intro l
  induction l with
  | nil => intro acc h _ _ _; exact h
  | cons p l ih =>
   intro acc h h1 h2 h3
   rw [List.foldl_cons]
   have a := List.pairwise_cons.1 h2
   have hl : ∀ x ∈ ddS acc p, le x p := by
    intro x hx
    rcases mem_ddS.1 hx with e | e
    ·exact h1 x e p (by simp)
    ·subst e; exact hrefl _
   refine ih _ ?_ ?_ a.2 ?_
   ·unfold ddS
    by_cases c : lastIs acc p = true
    ·rw [if_pos c]; exact h
    ·rw [if_neg c]
     refine List.pairwise_append.2 ⟨h, by simp, ?_⟩
     intro x hx y hy
     have hy : y = p := by simpa using hy
     subst hy
     refine ⟨h1 x hx y (by simp), ?_⟩
     intro e
     subst e
     apply c
     unfold lastIs
     cases e2 : acc.getLast? with
     | none => rw [List.getLast?_eq_none_iff.1 e2] at hx; cases hx
     | some q =>
      have q1 := h3 q e2 x hx
      have q2 := h1 q (List.mem_of_getLast? e2) x (by simp)
      exact decide_eq_true (cmpP_eq.2 (hanti q1 q2))
   ·intro x hx y hy
    rcases mem_ddS.1 hx with e | e
    ·exact h1 x e y (by simp [hy])
    ·subst e; exact a.1 y hy
   ·intro y hy x hx
    rw [ddS_last] at hy
    injection hy with hy; subst hy; exact hl x hx
 exact key l [] .nil (by simp) h (by simp)
theorem dd_up {l : List Pq} (h : WS l) : dd l = setL l :=
 setL_eq ((dd_by leP_refl leP_anti h).imp fun c => leP_ne c.1 c.2) (fun x => mem_dd l)
theorem dd_down {l : List Pq} (h : l.Pairwise (fun p q => leP q p)) : dd l = (setL l).reverse := by
 have h1 := dd_by (le := fun p q => leP q p) leP_refl (fun a b => leP_anti b a) h
 have h2 : SS (dd l).reverse := List.pairwise_reverse.2 (h1.imp fun c => leP_ne c.1 fun e => c.2 e.symm)
 have h3 : (dd l).reverse = setL l := setL_eq h2 (fun x => by rw [List.mem_reverse, mem_dd])
 rw [<- h3, List.reverse_reverse]
/-- Two lists of the same points are the same set. -/
theorem setL_perm {l l' : List Pq} (h : ∀ x, x ∈ l ↔ x ∈ l') : setL l = setL l' := setL_eq (setL_ss l) (fun x => by rw [mem_setL, h])
end Go.Proofs.YtfdealobplcboaaGreat.Sx
