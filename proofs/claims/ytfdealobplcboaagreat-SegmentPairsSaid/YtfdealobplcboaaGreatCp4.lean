/- Part 4 of what the statement needs: an executor of Go texts, arithmetic, and contracts of the functions that are called. -/
import Derived.Test.YtfdealobplcboaaGreatCp3
/- The reference's numbers: sums, products, order; printed by genNp.py, a program of this session. -/
set_option linter.unusedVariables false
set_option linter.unusedSimpArgs false
set_option maxRecDepth 100000
set_option maxHeartbeats 8000000
namespace Go.Proofs.YtfdealobplcboaaGreat.Sx

theorem rsm_ex (neg : Bool) (num den : ByteArray) : ∃ (n d : Int) (f : Bool), Con Tryz.prog 193 [.v (.agg #[.bool neg, .string num, .string den])] (.v (.tuple #[.int .i64 n, .int .i64 d, .bool f])) ∧ (f = true → num.size ≤ 3 ∧ den.size ≤ 3) := by
  by_cases h : num.size ≤ 3 ∧ den.size ≤ 3
  · exact ⟨_, _, true, rsm_yes neg num den h.1 h.2, fun _ => h⟩
  · exact ⟨0, 0, false, rsm_no neg num den (by omega), fun h => by cases h⟩
/-- A product of integers in their parts. -/
theorem rmul_zp {z w : Int} {sa sb : Bool} {xa xb : ByteArray} (ha : Zp z sa xa) (hb : Zp w sb xb) (qa : xa.size ≤ 1073741824) (qb : xb.size ≤ 1073741824) : ∃ s x, Zp (z * w) s x ∧ x.size ≤ xa.size + xb.size ∧ Con Tryz.prog 195 [.v (.agg #[.bool sa, .string xa]), .v (.agg #[.bool sb, .string xb])] (.v (.agg #[.bool s, .string x])) := by
  have h := rmul_con sa sb xa xb qa qb
  rw [ha.zval, hb.zval] at h
  obtain ⟨s, x, hz⟩ := Zp.ex (z * w)
  rw [hz.v] at h
  refine ⟨s, x, hz, ?_, h⟩
  rw [hz.m]
  refine mg_size_le ?_
  rw [Int.natAbs_mul, Nat.pow_add]
  have h1 := bv_lt xa
  have h2 := bv_lt xb
  rw [ha.bv] at h1
  rw [hb.bv] at h2
  exact Nat.mul_lt_mul'' h1 h2
theorem radd_zp {z w : Int} {sa sb : Bool} {xa xb : ByteArray} (ha : Zp z sa xa) (hb : Zp w sb xb) (qa : xa.size ≤ 1073741824) (qb : xb.size ≤ 1073741824) : ∃ s x, Zp (z + w) s x ∧ x.size ≤ xa.size + xb.size + 1 ∧ Con Tryz.prog 210 [.v (.agg #[.bool sa, .string xa]), .v (.agg #[.bool sb, .string xb])] (.v (.agg #[.bool s, .string x])) := by
  have h := radd_con sa sb xa xb qa qb
  rw [ha.zval, hb.zval] at h
  obtain ⟨s, x, hz⟩ := Zp.ex (z + w)
  rw [hz.v] at h
  refine ⟨s, x, hz, ?_, h⟩
  rw [hz.m]
  refine mg_size_le ?_
  have h1 := bv_lt xa
  have h2 := bv_lt xb
  rw [ha.bv] at h1
  rw [hb.bv] at h2
  have h3 := pow256_mono (show xa.size ≤ xa.size + xb.size by omega)
  have h4 := pow256_mono (show xb.size ≤ xa.size + xb.size by omega)
  rw [Nat.pow_succ]
  omega
theorem rparts_zp (neg : Bool) (num den : ByteArray) {k : Nat} (hn : num.size ≤ k) (hd : den.size ≤ k) (hk : 1 ≤ k) (hk2 : k ≤ 134217728) : ∃ s x y, Zp (zval neg num) s x ∧ Zp (bv (dden den) : Nat) false y ∧ x.size ≤ k ∧ y.size ≤ k ∧ Con Tryz.prog 170 [.v (.agg #[.bool neg, .string num, .string den])] (.v (.tuple #[.agg #[.bool s, .string x], .agg #[.bool false, .string y]])) := by
  have h := rparts_con neg num den (by omega) (by omega)
  obtain ⟨s, x, hz⟩ := Zp.ex (zval neg num)
  have hy := Zp.nat (bv (dden den))
  rw [hz.v, hy.v] at h
  refine ⟨s, x, _, hz, hy, by have := hz.size; omega, ?_, h⟩
  have h1 : (mg (bv (dden den))).size ≤ (dden den).size := mg_size_le (bv_lt _)
  have h2 := dden_size den
  omega
theorem small_bd {u : ByteArray} (h : u.size ≤ 3) : bv u < 16777216 := by
  have h1 := bv_lt u
  have h2 := pow256_mono h
  have h3 : (256 : Nat) ^ 3 = 16777216 := by decide
  omega
theorem small_dd {u : ByteArray} (h : u.size ≤ 3) : 0 < bv (dden u) ∧ bv (dden u) < 16777216 ∧ max (bv u : Int) 1 = (bv (dden u) : Nat) := by
  have := small_bd h
  rw [dden_bv]
  exact ⟨by omega, by omega, by omega⟩
theorem abs_mul_lt {a b : Int} (ha : a.natAbs < 16777216) (hb : b.natAbs < 16777216) : (a * b).natAbs < 281474976710656 := by
  rw [Int.natAbs_mul]
  have := Nat.mul_lt_mul'' ha hb
  omega
theorem radd_raw (na nb : Bool) (u v u' v' : ByteArray) {k l : Nat} (h1 : u.size ≤ k) (h2 : v.size ≤ k) (h3 : u'.size ≤ l) (h4 : v'.size ≤ l) (hk : 1 ≤ k) (hl : 1 ≤ l) (hkl : k + l ≤ 134217728) : Con Tryz.prog 171 [.v (rR na u v), .v (rR nb u' v')] (.v (rI (zval na u * (bv (dden v') : Nat) + zval nb u' * (bv (dden v) : Nat)) (bv (dden v) * bv (dden v')))) := by
  have dp : 0 < bv (dden v) := by rw [dden_bv]; omega
  have dp' : 0 < bv (dden v') := by rw [dden_bv]; omega
  obtain ⟨rs, rn, rd, hres⟩ : ∃ a b c, rI (zval na u * (bv (dden v') : Nat) + zval nb u' * (bv (dden v) : Nat)) (bv (dden v) * bv (dden v')) = .agg #[.bool a, .string b, .string c] := by
    unfold rI
    split
    · exact ⟨_, _, _, rfl⟩
    · exact ⟨_, _, _, rfl⟩
  by_cases hs : (u.size ≤ 3 ∧ v.size ≤ 3) ∧ (u'.size ≤ 3 ∧ v'.size ≤ 3)
  · have s1 := rsm_yes na u v hs.1.1 hs.1.2
    have s2 := rsm_yes nb u' v' hs.2.1 hs.2.2
    have d1 := small_dd hs.1.2
    have d2 := small_dd hs.2.2
    have b1 : (zval na u).natAbs < 16777216 := by rw [zval_abs]; exact small_bd hs.1.1
    have b2 : (zval nb u').natAbs < 16777216 := by rw [zval_abs]; exact small_bd hs.2.1
    rw [d1.2.2] at s1
    rw [d2.2.2] at s2
    have p1 := abs_mul_lt (a := zval na u) (b := (bv (dden v') : Nat)) b1 (by have := d2.2.1; omega)
    have p2 := abs_mul_lt (a := zval nb u') (b := (bv (dden v) : Nat)) b2 (by have := d1.2.1; omega)
    have p3 := abs_mul_lt (a := zval na u) (b := zval nb u') b1 b2
    have p4 := abs_mul_lt (a := (bv (dden v) : Nat)) (b := (bv (dden v') : Nat)) (by have := d1.2.1; omega) (by have := d2.2.1; omega)
    have p5 : bv (dden v) * bv (dden v') < 281474976710656 := by
      rw [← Int.natCast_mul, Int.natAbs_natCast] at p4; exact p4
    have pk := rpack_con (zval na u * (bv (dden v') : Nat) + zval nb u' * (bv (dden v) : Nat)) (bv (dden v) * bv (dden v')) (Nat.mul_pos dp dp') (by omega) (by omega)
    have w1 : Env.std.ib .mul .i64 (zval na u) (bv (dden v') : Nat) = zval na u * (bv (dden v') : Nat) := by rw [s_mul, w64 (by omega) (by omega)]
    have w2 : Env.std.ib .mul .i64 (zval nb u') (bv (dden v) : Nat) = zval nb u' * (bv (dden v) : Nat) := by rw [s_mul, w64 (by omega) (by omega)]
    have w3 : Env.std.ib .mul .i64 (zval na u) (zval nb u') = zval na u * zval nb u' := by rw [s_mul, w64 (by omega) (by omega)]
    have w4 : Env.std.ib .mul .i64 (bv (dden v) : Nat) (bv (dden v') : Nat) = ((bv (dden v) * bv (dden v') : Nat) : Int) := by rw [s_mul, w64 (by omega) (by omega), Int.natCast_mul]
    have w5 : Env.std.ib .add .i64 (Env.std.ib .mul .i64 (zval na u) (bv (dden v') : Nat)) (Env.std.ib .mul .i64 (zval nb u') (bv (dden v) : Nat)) = zval na u * (bv (dden v') : Nat) + zval nb u' * (bv (dden v) : Nat) := by rw [w1, w2, s_add, w64 (by omega) (by omega)]
    obtain ⟨D, hD⟩ : ∃ D : Int, D = ((bv (dden v) * bv (dden v') : Nat) : Int) := ⟨_, rfl⟩
    obtain ⟨n, hn⟩ : ∃ n, n = zval na u := ⟨_, rfl⟩
    obtain ⟨m, hm⟩ : ∃ n, n = zval nb u' := ⟨_, rfl⟩
    obtain ⟨d, hd⟩ : ∃ n : Int, n = (bv (dden v) : Nat) := ⟨_, rfl⟩
    obtain ⟨e, he⟩ : ∃ n : Int, n = (bv (dden v') : Nat) := ⟨_, rfl⟩
    rw [hres] at pk ⊢
    rw [← hD] at pk w4
    rw [← hn, ← hm, ← hd, ← he] at pk w5
    rw [← hd, ← he] at w4
    obtain ⟨N, hN⟩ : ∃ N : Int, N = n * e + m * d := ⟨_, rfl⟩
    rw [← hN] at pk w5
    rw [← hn, ← hd] at s1
    rw [← hm, ← he] at s2
    clear p1 p2 p3 p4 p5 w1 w2 w3 hD hN hres hn hm hd he b1 b2 d1 d2 dp dp'
    unfold rR at *
    refine Con.of ttOk mixed Tryz.func171 { ord := [(7, [0, 1, 3, 4, 7, 8, 2, 5, 6, 9, 10, 11])] } .nil 0 (by kernel_rfl) (fun P' E hP hE => ?_)
    cbv
    refine CallTo.w hP hE s1 ⟨rfl, trivial⟩ ?_
    cbv
    refine CallTo.w hP hE s2 ⟨rfl, trivial⟩ ?_
    cbv
    refine fork.ya rfl ?_
    cbv
    refine fork.ya rfl ?_
    cbv
    refine CallTo.con hP hE pk (by subst hE; exact ⟨congrArg (Value.int .i64) w5, congrArg (Value.int .i64) w4, trivial⟩) ?_
    cbv
  · obtain ⟨n1, d1, f1, s1, q1⟩ := rsm_ex na u v
    obtain ⟨n2, d2, f2, s2, q2⟩ := rsm_ex nb u' v'
    obtain ⟨sa, xa, ya, za, wa, la, ma, pa⟩ := rparts_zp na u v h1 h2 hk (by omega)
    obtain ⟨sb, xb, yb, zb, wb, lb, mb, pb⟩ := rparts_zp nb u' v' h3 h4 hl (by omega)
    obtain ⟨t1, y1, z1, l1, m1⟩ := rmul_zp za wb (by omega) (by omega)
    obtain ⟨t2, y2, z2, l2, m2⟩ := rmul_zp zb wa (by omega) (by omega)
    obtain ⟨t3, y3, z3, l3, m3⟩ := radd_zp z1 z2 (by omega) (by omega)
    obtain ⟨t4, y4, z4, l4, m4⟩ := rmul_zp wa wb (by omega) (by omega)
    have e4 : t4 = false := by
      rw [z4.s]
      have := Int.mul_nonneg (Int.natCast_nonneg (bv (dden v))) (Int.natCast_nonneg (bv (dden v')))
      exact decide_eq_false (by omega)
    subst e4
    have b4 : bv y4 = bv (dden v) * bv (dden v') := by rw [z4.bv, ← Int.natCast_mul]; rfl
    have m5 := rreduce_con t3 y3 y4 (by omega) (by omega) (by rw [b4]; exact Nat.mul_pos dp dp')
    rw [z3.zval, b4, hres] at m5
    rw [hres]
    clear za zb wa wb z1 z2 z3 z4 b4 hres dp dp'
    unfold rR zR at *
    refine Con.of ttOk mixed Tryz.func171 { ord := [(7, [0, 1, 3, 4, 7, 8, 2, 5, 6, 9, 10, 11])] } .nil 0 (by kernel_rfl) (fun P' E hP hE => ?_)
    cbv
    refine CallTo.w hP hE s1 ⟨rfl, trivial⟩ ?_
    cbv
    refine CallTo.w hP hE s2 ⟨rfl, trivial⟩ ?_
    cbv
    refine fork.mk ?_ ?_
    · intro g1
      cbv
      refine fork.na (by
        cases hf : f2 with
        | false => rfl
        | true => exact absurd ⟨q1 g1, q2 hf⟩ hs) ?_
      cbv
      refine CallTo.w hP hE pa ⟨rfl, trivial⟩ ?_
      cbv
      refine CallTo.w hP hE pb ⟨rfl, trivial⟩ ?_
      cbv
      refine CallTo.w hP hE m1 ⟨rfl, rfl, trivial⟩ ?_
      cbv
      refine CallTo.w hP hE m2 ⟨rfl, rfl, trivial⟩ ?_
      cbv
      refine CallTo.w hP hE m3 ⟨rfl, rfl, trivial⟩ ?_
      cbv
      refine CallTo.w hP hE m4 ⟨rfl, rfl, trivial⟩ ?_
      cbv
      refine CallTo.w hP hE m5 ⟨rfl, rfl, trivial⟩ ?_
      cbv
    · intro g1
      cbv
      refine CallTo.w hP hE pa ⟨rfl, trivial⟩ ?_
      cbv
      refine CallTo.w hP hE pb ⟨rfl, trivial⟩ ?_
      cbv
      refine CallTo.w hP hE m1 ⟨rfl, rfl, trivial⟩ ?_
      cbv
      refine CallTo.w hP hE m2 ⟨rfl, rfl, trivial⟩ ?_
      cbv
      refine CallTo.w hP hE m3 ⟨rfl, rfl, trivial⟩ ?_
      cbv
      refine CallTo.w hP hE m4 ⟨rfl, rfl, trivial⟩ ?_
      cbv
      refine CallTo.w hP hE m5 ⟨rfl, rfl, trivial⟩ ?_
      cbv
theorem rmulq_raw (na nb : Bool) (u v u' v' : ByteArray) {k l : Nat} (h1 : u.size ≤ k) (h2 : v.size ≤ k) (h3 : u'.size ≤ l) (h4 : v'.size ≤ l) (hk : 1 ≤ k) (hl : 1 ≤ l) (hkl : k + l ≤ 134217728) : Con Tryz.prog 169 [.v (rR na u v), .v (rR nb u' v')] (.v (rI (zval na u * zval nb u') (bv (dden v) * bv (dden v')))) := by
  have dp : 0 < bv (dden v) := by rw [dden_bv]; omega
  have dp' : 0 < bv (dden v') := by rw [dden_bv]; omega
  obtain ⟨rs, rn, rd, hres⟩ : ∃ a b c, rI (zval na u * zval nb u') (bv (dden v) * bv (dden v')) = .agg #[.bool a, .string b, .string c] := by
    unfold rI
    split
    · exact ⟨_, _, _, rfl⟩
    · exact ⟨_, _, _, rfl⟩
  by_cases hs : (u.size ≤ 3 ∧ v.size ≤ 3) ∧ (u'.size ≤ 3 ∧ v'.size ≤ 3)
  · have s1 := rsm_yes na u v hs.1.1 hs.1.2
    have s2 := rsm_yes nb u' v' hs.2.1 hs.2.2
    have d1 := small_dd hs.1.2
    have d2 := small_dd hs.2.2
    have b1 : (zval na u).natAbs < 16777216 := by rw [zval_abs]; exact small_bd hs.1.1
    have b2 : (zval nb u').natAbs < 16777216 := by rw [zval_abs]; exact small_bd hs.2.1
    rw [d1.2.2] at s1
    rw [d2.2.2] at s2
    have p1 := abs_mul_lt (a := zval na u) (b := (bv (dden v') : Nat)) b1 (by have := d2.2.1; omega)
    have p2 := abs_mul_lt (a := zval nb u') (b := (bv (dden v) : Nat)) b2 (by have := d1.2.1; omega)
    have p3 := abs_mul_lt (a := zval na u) (b := zval nb u') b1 b2
    have p4 := abs_mul_lt (a := (bv (dden v) : Nat)) (b := (bv (dden v') : Nat)) (by have := d1.2.1; omega) (by have := d2.2.1; omega)
    have p5 : bv (dden v) * bv (dden v') < 281474976710656 := by
      rw [← Int.natCast_mul, Int.natAbs_natCast] at p4; exact p4
    have pk := rpack_con (zval na u * zval nb u') (bv (dden v) * bv (dden v')) (Nat.mul_pos dp dp') (by omega) (by omega)
    have w1 : Env.std.ib .mul .i64 (zval na u) (bv (dden v') : Nat) = zval na u * (bv (dden v') : Nat) := by rw [s_mul, w64 (by omega) (by omega)]
    have w2 : Env.std.ib .mul .i64 (zval nb u') (bv (dden v) : Nat) = zval nb u' * (bv (dden v) : Nat) := by rw [s_mul, w64 (by omega) (by omega)]
    have w3 : Env.std.ib .mul .i64 (zval na u) (zval nb u') = zval na u * zval nb u' := by rw [s_mul, w64 (by omega) (by omega)]
    have w4 : Env.std.ib .mul .i64 (bv (dden v) : Nat) (bv (dden v') : Nat) = ((bv (dden v) * bv (dden v') : Nat) : Int) := by rw [s_mul, w64 (by omega) (by omega), Int.natCast_mul]
    obtain ⟨D, hD⟩ : ∃ D : Int, D = ((bv (dden v) * bv (dden v') : Nat) : Int) := ⟨_, rfl⟩
    obtain ⟨n, hn⟩ : ∃ n, n = zval na u := ⟨_, rfl⟩
    obtain ⟨m, hm⟩ : ∃ n, n = zval nb u' := ⟨_, rfl⟩
    obtain ⟨d, hd⟩ : ∃ n : Int, n = (bv (dden v) : Nat) := ⟨_, rfl⟩
    obtain ⟨e, he⟩ : ∃ n : Int, n = (bv (dden v') : Nat) := ⟨_, rfl⟩
    rw [hres] at pk ⊢
    rw [← hD] at pk w4
    rw [← hn, ← hm] at pk w3
    rw [← hd, ← he] at w4
    obtain ⟨N, hN⟩ : ∃ N : Int, N = n * m := ⟨_, rfl⟩
    rw [← hN] at pk w3
    rw [← hn, ← hd] at s1
    rw [← hm, ← he] at s2
    clear p1 p2 p3 p4 p5 w1 w2  hD hN hres hn hm hd he b1 b2 d1 d2 dp dp'
    unfold rR at *
    refine Con.of ttOk mixed Tryz.func169 { ord := [(7, [0, 1, 3, 4, 2, 5, 6, 7])] } .nil 0 (by kernel_rfl) (fun P' E hP hE => ?_)
    cbv
    refine CallTo.w hP hE s1 ⟨rfl, trivial⟩ ?_
    cbv
    refine CallTo.w hP hE s2 ⟨rfl, trivial⟩ ?_
    cbv
    refine fork.ya rfl ?_
    cbv
    refine fork.ya rfl ?_
    cbv
    refine CallTo.con hP hE pk (by subst hE; exact ⟨congrArg (Value.int .i64) w3, congrArg (Value.int .i64) w4, trivial⟩) ?_
    cbv
  · obtain ⟨n1, d1, f1, s1, q1⟩ := rsm_ex na u v
    obtain ⟨n2, d2, f2, s2, q2⟩ := rsm_ex nb u' v'
    obtain ⟨sa, xa, ya, za, wa, la, ma, pa⟩ := rparts_zp na u v h1 h2 hk (by omega)
    obtain ⟨sb, xb, yb, zb, wb, lb, mb, pb⟩ := rparts_zp nb u' v' h3 h4 hl (by omega)
    obtain ⟨t1, y1, z1, l1, m1⟩ := rmul_zp za zb (by omega) (by omega)
    obtain ⟨t4, y4, z4, l4, m4⟩ := rmul_zp wa wb (by omega) (by omega)
    have e4 : t4 = false := by
      rw [z4.s]
      have := Int.mul_nonneg (Int.natCast_nonneg (bv (dden v))) (Int.natCast_nonneg (bv (dden v')))
      exact decide_eq_false (by omega)
    subst e4
    have b4 : bv y4 = bv (dden v) * bv (dden v') := by rw [z4.bv, ← Int.natCast_mul]; rfl
    have m5 := rreduce_con t1 y1 y4 (by omega) (by omega) (by rw [b4]; exact Nat.mul_pos dp dp')
    rw [z1.zval, b4, hres] at m5
    rw [hres]
    clear za zb wa wb z1 z4 b4 hres dp dp'
    unfold rR zR at *
    refine Con.of ttOk mixed Tryz.func169 { ord := [(7, [0, 1, 3, 4, 2, 5, 6, 7])] } .nil 0 (by kernel_rfl) (fun P' E hP hE => ?_)
    cbv
    refine CallTo.w hP hE s1 ⟨rfl, trivial⟩ ?_
    cbv
    refine CallTo.w hP hE s2 ⟨rfl, trivial⟩ ?_
    cbv
    refine fork.mk ?_ ?_
    · intro g1
      cbv
      refine fork.na (by
        cases hf : f2 with
        | false => rfl
        | true => exact absurd ⟨q1 g1, q2 hf⟩ hs) ?_
      cbv
      refine CallTo.w hP hE pa ⟨rfl, trivial⟩ ?_
      cbv
      refine CallTo.w hP hE pb ⟨rfl, trivial⟩ ?_
      cbv
      refine CallTo.w hP hE m1 ⟨rfl, rfl, trivial⟩ ?_
      cbv
      refine CallTo.w hP hE m4 ⟨rfl, rfl, trivial⟩ ?_
      cbv
      refine CallTo.w hP hE m5 ⟨rfl, rfl, trivial⟩ ?_
      cbv
    · intro g1
      cbv
      refine CallTo.w hP hE pa ⟨rfl, trivial⟩ ?_
      cbv
      refine CallTo.w hP hE pb ⟨rfl, trivial⟩ ?_
      cbv
      refine CallTo.w hP hE m1 ⟨rfl, rfl, trivial⟩ ?_
      cbv
      refine CallTo.w hP hE m4 ⟨rfl, rfl, trivial⟩ ?_
      cbv
      refine CallTo.w hP hE m5 ⟨rfl, rfl, trivial⟩ ?_
      cbv
theorem rcmpq_raw (na nb : Bool) (u v u' v' : ByteArray) {k l : Nat} (h1 : u.size ≤ k) (h2 : v.size ≤ k) (h3 : u'.size ≤ l) (h4 : v'.size ≤ l) (hk : 1 ≤ k) (hl : 1 ≤ l) (hkl : k + l ≤ 134217728) : Con Tryz.prog 146 [.v (rR na u v), .v (rR nb u' v')] (.v (.int .i64 (cmpI (zval na u * (bv (dden v') : Nat)) (zval nb u' * (bv (dden v) : Nat))))) := by
  have dp : 0 < bv (dden v) := by rw [dden_bv]; omega
  have dp' : 0 < bv (dden v') := by rw [dden_bv]; omega
  obtain ⟨r, hr⟩ : ∃ r, r = cmpI (zval na u * (bv (dden v') : Nat)) (zval nb u' * (bv (dden v) : Nat)) := ⟨_, rfl⟩
  by_cases hs : (u.size ≤ 3 ∧ v.size ≤ 3) ∧ (u'.size ≤ 3 ∧ v'.size ≤ 3)
  · have s1 := rsm_yes na u v hs.1.1 hs.1.2
    have s2 := rsm_yes nb u' v' hs.2.1 hs.2.2
    have d1 := small_dd hs.1.2
    have d2 := small_dd hs.2.2
    have b1 : (zval na u).natAbs < 16777216 := by rw [zval_abs]; exact small_bd hs.1.1
    have b2 : (zval nb u').natAbs < 16777216 := by rw [zval_abs]; exact small_bd hs.2.1
    rw [d1.2.2] at s1
    rw [d2.2.2] at s2
    have p1 := abs_mul_lt (a := zval na u) (b := (bv (dden v') : Nat)) b1 (by have := d2.2.1; omega)
    have p2 := abs_mul_lt (a := zval nb u') (b := (bv (dden v) : Nat)) b2 (by have := d1.2.1; omega)
    have p3 := abs_mul_lt (a := zval na u) (b := zval nb u') b1 b2
    have p4 := abs_mul_lt (a := (bv (dden v) : Nat)) (b := (bv (dden v') : Nat)) (by have := d1.2.1; omega) (by have := d2.2.1; omega)
    have p5 : bv (dden v) * bv (dden v') < 281474976710656 := by
      rw [← Int.natCast_mul, Int.natAbs_natCast] at p4; exact p4
    have w1 : Env.std.ib .mul .i64 (zval na u) (bv (dden v') : Nat) = zval na u * (bv (dden v') : Nat) := by rw [s_mul, w64 (by omega) (by omega)]
    have w2 : Env.std.ib .mul .i64 (zval nb u') (bv (dden v) : Nat) = zval nb u' * (bv (dden v) : Nat) := by rw [s_mul, w64 (by omega) (by omega)]
    have w3 : Env.std.ib .mul .i64 (zval na u) (zval nb u') = zval na u * zval nb u' := by rw [s_mul, w64 (by omega) (by omega)]
    have w4 : Env.std.ib .mul .i64 (bv (dden v) : Nat) (bv (dden v') : Nat) = ((bv (dden v) * bv (dden v') : Nat) : Int) := by rw [s_mul, w64 (by omega) (by omega), Int.natCast_mul]
    obtain ⟨D, hD⟩ : ∃ D : Int, D = ((bv (dden v) * bv (dden v') : Nat) : Int) := ⟨_, rfl⟩
    obtain ⟨n, hn⟩ : ∃ n, n = zval na u := ⟨_, rfl⟩
    obtain ⟨m, hm⟩ : ∃ n, n = zval nb u' := ⟨_, rfl⟩
    obtain ⟨d, hd⟩ : ∃ n : Int, n = (bv (dden v) : Nat) := ⟨_, rfl⟩
    obtain ⟨e, he⟩ : ∃ n : Int, n = (bv (dden v') : Nat) := ⟨_, rfl⟩
    rw [← hn, ← he] at w1
    rw [← hm, ← hd] at w2
    rw [← hn, ← hm, ← hd, ← he] at hr ⊢
    rw [← hr]
    rw [← hn, ← hd] at s1
    rw [← hm, ← he] at s2
    have r1 : n * e < m * d → r = -1 := fun h => by rw [hr, cmpI, if_pos h]
    have r2 : ¬ n * e < m * d → n * e > m * d → r = 1 := fun h h' => by rw [hr, cmpI, if_neg h, if_pos h']
    have r3 : ¬ n * e < m * d → ¬ n * e > m * d → r = 0 := fun h h' => by rw [hr, cmpI, if_neg h, if_neg h']
    have k1 : Env.std.ic .lss (Env.std.ib .mul .i64 n e) (Env.std.ib .mul .i64 m d) = decide (n * e < m * d) := by rw [w1, w2]; rfl
    have k2 : Env.std.ic .gtr (Env.std.ib .mul .i64 n e) (Env.std.ib .mul .i64 m d) = decide (n * e > m * d) := by rw [w1, w2]; rfl
    clear p1 p2 p3 p4 p5 w1 w2 w3 w4 hD hr hn hm hd he b1 b2 d1 d2 dp dp'
    unfold rR at *
    refine Con.of ttOk mixed Tryz.func146 { ord := [(11, [0, 1, 3, 4, 2, 5, 6, 7])] } .nil 0 (by kernel_rfl) (fun P' E hP hE => ?_)
    cbv
    refine CallTo.w hP hE s1 ⟨rfl, trivial⟩ ?_
    cbv
    refine CallTo.w hP hE s2 ⟨rfl, trivial⟩ ?_
    cbv
    refine fork.ya rfl ?_
    cbv
    refine fork.ya rfl ?_
    cbv
    refine fork.mk ?_ ?_
    · intro g1
      have g1 : n * e < m * d := by subst hE; exact of_decide_eq_true (k1.symm.trans g1)
      cbv
      rw [r1 g1]
    · intro g1
      have g1 : ¬ n * e < m * d := by subst hE; exact of_decide_eq_false (k1.symm.trans g1)
      cbv
      refine fork.mk ?_ ?_
      · intro g2
        have g2 : n * e > m * d := by subst hE; exact of_decide_eq_true (k2.symm.trans g2)
        cbv
        rw [r2 g1 g2]
      · intro g2
        have g2 : ¬ n * e > m * d := by subst hE; exact of_decide_eq_false (k2.symm.trans g2)
        cbv
        rw [r3 g1 g2]
  · obtain ⟨n1, d1, f1, s1, q1⟩ := rsm_ex na u v
    obtain ⟨n2, d2, f2, s2, q2⟩ := rsm_ex nb u' v'
    obtain ⟨sa, xa, ya, za, wa, la, ma, pa⟩ := rparts_zp na u v h1 h2 hk (by omega)
    obtain ⟨sb, xb, yb, zb, wb, lb, mb, pb⟩ := rparts_zp nb u' v' h3 h4 hl (by omega)
    obtain ⟨t1, y1, z1, l1, m1⟩ := rmul_zp za wb (by omega) (by omega)
    obtain ⟨t2, y2, z2, l2, m2⟩ := rmul_zp zb wa (by omega) (by omega)
    have m5 := rcmp_con t1 t2 y1 y2 (by omega) (by omega)
    rw [z1.zval, z2.zval, ← hr] at m5
    rw [← hr]
    clear za zb wa wb z1 z2 hr dp dp'
    unfold rR zR at *
    refine Con.of ttOk mixed Tryz.func146 { ord := [(11, [0, 1, 3, 4, 2, 5, 6, 7])] } .nil 0 (by kernel_rfl) (fun P' E hP hE => ?_)
    cbv
    refine CallTo.w hP hE s1 ⟨rfl, trivial⟩ ?_
    cbv
    refine CallTo.w hP hE s2 ⟨rfl, trivial⟩ ?_
    cbv
    refine fork.mk ?_ ?_
    · intro g1
      cbv
      refine fork.na (by
        cases hf : f2 with
        | false => rfl
        | true => exact absurd ⟨q1 g1, q2 hf⟩ hs) ?_
      cbv
      refine CallTo.w hP hE pa ⟨rfl, trivial⟩ ?_
      cbv
      refine CallTo.w hP hE pb ⟨rfl, trivial⟩ ?_
      cbv
      refine CallTo.w hP hE m1 ⟨rfl, rfl, trivial⟩ ?_
      cbv
      refine CallTo.w hP hE m2 ⟨rfl, rfl, trivial⟩ ?_
      cbv
      refine CallTo.w hP hE m5 ⟨rfl, rfl, trivial⟩ ?_
      cbv
    · intro g1
      cbv
      refine CallTo.w hP hE pa ⟨rfl, trivial⟩ ?_
      cbv
      refine CallTo.w hP hE pb ⟨rfl, trivial⟩ ?_
      cbv
      refine CallTo.w hP hE m1 ⟨rfl, rfl, trivial⟩ ?_
      cbv
      refine CallTo.w hP hE m2 ⟨rfl, rfl, trivial⟩ ?_
      cbv
      refine CallTo.w hP hE m5 ⟨rfl, rfl, trivial⟩ ?_
      cbv
end Go.Proofs.YtfdealobplcboaaGreat.Sx

/- The reference's numbers by their values. -/
set_option linter.unusedVariables false
set_option linter.unusedSimpArgs false
set_option maxRecDepth 100000
set_option maxHeartbeats 8000000
namespace Go.Proofs.YtfdealobplcboaaGreat.Sx

theorem xadd_q {a b : R} {x y : Rat} {k l : Nat} (ha : Is k a x) (hb : Is l b y) (h : k + l ≤ 134217728) : Con Tryz.prog 171 [.v a.v, .v b.v] (.v (cr (x + y)).v) := by
  have e : x + y = mkRat (a.nm * b.dn + b.nm * a.dn) (a.dn * b.dn) := by
    have := a.dn_pos; have := b.dn_pos
    rw [← ha.q, ← hb.q]; exact Rat.mkRat_add_mkRat _ _ (by omega) (by omega)
  rw [e, ← rI_cr _ _ (Nat.mul_pos a.dn_pos b.dn_pos)]
  exact radd_raw a.neg b.neg a.num a.den b.num b.den ha.n ha.d hb.n hb.d ha.b.pos hb.b.pos h
theorem xmul_q {a b : R} {x y : Rat} {k l : Nat} (ha : Is k a x) (hb : Is l b y) (h : k + l ≤ 134217728) : Con Tryz.prog 169 [.v a.v, .v b.v] (.v (cr (x * y)).v) := by
  have e : x * y = mkRat (a.nm * b.nm) (a.dn * b.dn) := by
    have := a.dn_pos; have := b.dn_pos
    rw [← ha.q, ← hb.q]; exact Rat.mkRat_mul_mkRat _ _ _ _
  rw [e, ← rI_cr _ _ (Nat.mul_pos a.dn_pos b.dn_pos)]
  exact rmulq_raw a.neg b.neg a.num a.den b.num b.den ha.n ha.d hb.n hb.d ha.b.pos hb.b.pos h
theorem xcmp_q {a b : R} {x y : Rat} {k l : Nat} (ha : Is k a x) (hb : Is l b y) (h : k + l ≤ 134217728) : Con Tryz.prog 146 [.v a.v, .v b.v] (.v (.int .i64 (cmpQ x y))) := by
  have e : cmpQ x y = cmpI (a.nm * b.dn) (b.nm * a.dn) := by
    rw [← ha.q, ← hb.q]; exact (cmpI_q a.dn_pos b.dn_pos).symm
  rw [e]
  exact rcmpq_raw a.neg b.neg a.num a.den b.num b.den ha.n ha.d hb.n hb.d ha.b.pos hb.b.pos h
theorem xadd_c {P' : Program} {E : Env} (hP : P' = Tryz.prog) (hE : E = Env.std) {hh : List Blk} {K : AV → List Blk → Prop} {an0 : Bool} {au0 ad0 : ByteArray} {x : Rat} {k : Nat} {bn0 : Bool} {bu0 bd0 : ByteArray} {y : Rat} {l : Nat} (ha : Is k ⟨an0, au0, ad0⟩ x) (hb : Is l ⟨bn0, bu0, bd0⟩ y) (h : k + l ≤ 134217728) (hk : ∀ r0 : R, r0 = cr (x + y) → Is (k + l + 1) r0 (x + y) → K (.v (r0.v)) hh) : CallTo P' hh 171 [.v (.agg #[.bool an0, .string au0, .string ad0]), .v (.agg #[.bool bn0, .string bu0, .string bd0])] K := by
  refine CallTo.con hP hE (xadd_q ha hb h) ⟨rfl, rfl, trivial⟩ ?_
  have := hk _ rfl (ha.b.add hb.b).is 
  simp only [outV, outW, List.append_nil]
  exact this
theorem xadd_p {a : R} {x : Rat} {k : Nat} {b : R} {y : Rat} {l : Nat} (ha : Is k a x) (hb : Is l b y) (h : k + l ≤ 134217728) : ∃ (r0 : R), r0 = cr (x + y) ∧ Is (k + l + 1) r0 (x + y) ∧ Con Tryz.prog 171 [.v a.v, .v b.v] (.v (r0.v)) := ⟨_, rfl, (ha.b.add hb.b).is, xadd_q ha hb h⟩
theorem xmul_c {P' : Program} {E : Env} (hP : P' = Tryz.prog) (hE : E = Env.std) {hh : List Blk} {K : AV → List Blk → Prop} {an0 : Bool} {au0 ad0 : ByteArray} {x : Rat} {k : Nat} {bn0 : Bool} {bu0 bd0 : ByteArray} {y : Rat} {l : Nat} (ha : Is k ⟨an0, au0, ad0⟩ x) (hb : Is l ⟨bn0, bu0, bd0⟩ y) (h : k + l ≤ 134217728) (hk : ∀ r0 : R, r0 = cr (x * y) → Is (k + l) r0 (x * y) → K (.v (r0.v)) hh) : CallTo P' hh 169 [.v (.agg #[.bool an0, .string au0, .string ad0]), .v (.agg #[.bool bn0, .string bu0, .string bd0])] K := by
  refine CallTo.con hP hE (xmul_q ha hb h) ⟨rfl, rfl, trivial⟩ ?_
  have := hk _ rfl (ha.b.mul hb.b).is 
  simp only [outV, outW, List.append_nil]
  exact this
theorem xmul_p {a : R} {x : Rat} {k : Nat} {b : R} {y : Rat} {l : Nat} (ha : Is k a x) (hb : Is l b y) (h : k + l ≤ 134217728) : ∃ (r0 : R), r0 = cr (x * y) ∧ Is (k + l) r0 (x * y) ∧ Con Tryz.prog 169 [.v a.v, .v b.v] (.v (r0.v)) := ⟨_, rfl, (ha.b.mul hb.b).is, xmul_q ha hb h⟩
theorem xcmp_c {P' : Program} {E : Env} (hP : P' = Tryz.prog) (hE : E = Env.std) {hh : List Blk} {K : AV → List Blk → Prop} {an0 : Bool} {au0 ad0 : ByteArray} {x : Rat} {k : Nat} {bn0 : Bool} {bu0 bd0 : ByteArray} {y : Rat} {l : Nat} (ha : Is k ⟨an0, au0, ad0⟩ x) (hb : Is l ⟨bn0, bu0, bd0⟩ y) (h : k + l ≤ 134217728) (hk : ∀ r0 : Int, r0 = cmpQ x y → K (.v (.int .i64 r0)) hh) : CallTo P' hh 146 [.v (.agg #[.bool an0, .string au0, .string ad0]), .v (.agg #[.bool bn0, .string bu0, .string bd0])] K := by
  refine CallTo.con hP hE (xcmp_q ha hb h) ⟨rfl, rfl, trivial⟩ ?_
  have := hk _ rfl
  simp only [outV, outW, List.append_nil]
  exact this
theorem xcmp_p {a : R} {x : Rat} {k : Nat} {b : R} {y : Rat} {l : Nat} (ha : Is k a x) (hb : Is l b y) (h : k + l ≤ 134217728) : ∃ (r0 : Int), r0 = cmpQ x y ∧ Con Tryz.prog 146 [.v a.v, .v b.v] (.v (.int .i64 r0)) := ⟨_, rfl, xcmp_q ha hb h⟩
theorem xsub_q {a b : R} {x y : Rat} {k l : Nat} (ha : Is k a x) (hb : Is l b y) (h : k + l ≤ 134217728) : Con Tryz.prog 145 [.v a.v, .v b.v] (.v (cr (x - y)).v) := by
  obtain ⟨n1, u1, d1⟩ := a
  obtain ⟨n2, u2, d2⟩ := b
  have hc := xadd_q ha hb.not h
  rw [← Rat.sub_eq_add_neg] at hc
  obtain ⟨r, hr⟩ : ∃ r, r = cr (x - y) := ⟨_, rfl⟩
  rw [← hr] at hc ⊢
  refine Con.of ttOk mixed Tryz.func145 {} .nil 0 (by kernel_rfl) (fun P' E hP hE => ?_)
  clear hr
  cbv
  refine CallTo.w hP hE hc (by subst hE; exact ⟨rfl, rfl, trivial⟩) ?_
  cbv
theorem xsub_c {P' : Program} {E : Env} (hP : P' = Tryz.prog) (hE : E = Env.std) {hh : List Blk} {K : AV → List Blk → Prop} {an0 : Bool} {au0 ad0 : ByteArray} {x : Rat} {k : Nat} {bn0 : Bool} {bu0 bd0 : ByteArray} {y : Rat} {l : Nat} (ha : Is k ⟨an0, au0, ad0⟩ x) (hb : Is l ⟨bn0, bu0, bd0⟩ y) (h : k + l ≤ 134217728) (hk : ∀ r0 : R, r0 = cr (x - y) → Is (k + l + 1) r0 (x - y) → K (.v (r0.v)) hh) : CallTo P' hh 145 [.v (.agg #[.bool an0, .string au0, .string ad0]), .v (.agg #[.bool bn0, .string bu0, .string bd0])] K := by
  refine CallTo.con hP hE (xsub_q ha hb h) ⟨rfl, rfl, trivial⟩ ?_
  have := hk _ rfl (ha.b.sub hb.b).is 
  simp only [outV, outW, List.append_nil]
  exact this
theorem xsub_p {a : R} {x : Rat} {k : Nat} {b : R} {y : Rat} {l : Nat} (ha : Is k a x) (hb : Is l b y) (h : k + l ≤ 134217728) : ∃ (r0 : R), r0 = cr (x - y) ∧ Is (k + l + 1) r0 (x - y) ∧ Con Tryz.prog 145 [.v a.v, .v b.v] (.v (r0.v)) := ⟨_, rfl, (ha.b.sub hb.b).is, xsub_q ha hb h⟩
theorem xnorm_q {a : R} {x : Rat} {k : Nat} (ha : Is k a x) (h : k ≤ 134217728) : Con Tryz.prog 196 [.v a.v] (.v (cr x).v) := by
  have e : (cr x).v = rI a.nm a.dn := by rw [rI_cr _ _ a.dn_pos]; show _ = (cr a.q).v; rw [ha.q]
  have hn := ha.n
  have hd := ha.d
  have hk := ha.b.pos
  have dp := a.dn_pos
  rw [e]
  obtain ⟨neg, u, v⟩ := a
  have hn : u.size ≤ k := hn
  have hd : v.size ≤ k := hd
  clear ha e
  obtain ⟨rs, rn, rd, hres⟩ : ∃ a b c, rI (R.nm ⟨neg, u, v⟩) (R.dn ⟨neg, u, v⟩) = .agg #[.bool a, .string b, .string c] := by
    unfold rI
    split
    · exact ⟨_, _, _, rfl⟩
    · exact ⟨_, _, _, rfl⟩
  rw [hres]
  by_cases hs : u.size ≤ 3 ∧ v.size ≤ 3
  · have s1 := rsm_yes neg u v hs.1 hs.2
    have d1 := small_dd hs.2
    have b1 : (zval neg u).natAbs < 16777216 := by rw [zval_abs]; exact small_bd hs.1
    rw [d1.2.2] at s1
    have pk := rpack_con (zval neg u) (bv (dden v)) d1.1 (by omega) (by omega)
    have pk : Con Tryz.prog 209 [.v (.int .i64 (zval neg u)), .v (.int .i64 (bv (dden v) : Nat))] (.v (rI (R.nm ⟨neg, u, v⟩) (R.dn ⟨neg, u, v⟩))) := pk
    rw [hres] at pk
    obtain ⟨n, hn1⟩ : ∃ n, n = zval neg u := ⟨_, rfl⟩
    obtain ⟨d, hd1⟩ : ∃ n : Int, n = (bv (dden v) : Nat) := ⟨_, rfl⟩
    rw [← hn1, ← hd1] at s1 pk
    clear hres hn1 hd1 d1 b1 dp
    unfold rR at s1
    refine Con.of ttOk mixed Tryz.func196 {} .nil 0 (by kernel_rfl) (fun P' E hP hE => ?_)
    cbv
    refine CallTo.w hP hE s1 ⟨rfl, trivial⟩ ?_
    cbv
    refine fork.ya rfl ?_
    cbv
    refine CallTo.w hP hE pk ⟨rfl, rfl, trivial⟩ ?_
    cbv
  · have s1 := rsm_no neg u v (by omega)
    obtain ⟨sa, xa, ya, za, wa, la, ma, pa⟩ := rparts_zp neg u v hn hd hk h
    have b4 : bv ya = bv (dden v) := by rw [wa.bv]; rfl
    have m5 := rreduce_con sa xa ya (by omega) (by omega) (by rw [b4]; exact dp)
    rw [za.zval, b4] at m5
    have m5 : Con Tryz.prog 197 [.v (zR sa xa), .v (zR false ya)] (.v (rI (R.nm ⟨neg, u, v⟩) (R.dn ⟨neg, u, v⟩))) := m5
    rw [hres] at m5
    clear hres za wa b4 dp
    unfold rR at s1
    unfold zR at m5
    refine Con.of ttOk mixed Tryz.func196 {} .nil 0 (by kernel_rfl) (fun P' E hP hE => ?_)
    cbv
    refine CallTo.w hP hE s1 ⟨rfl, trivial⟩ ?_
    cbv
    refine fork.na rfl ?_
    cbv
    refine CallTo.w hP hE pa ⟨rfl, trivial⟩ ?_
    cbv
    refine CallTo.w hP hE m5 ⟨rfl, rfl, trivial⟩ ?_
    cbv
theorem xnorm_c {P' : Program} {E : Env} (hP : P' = Tryz.prog) (hE : E = Env.std) {hh : List Blk} {K : AV → List Blk → Prop} {an0 : Bool} {au0 ad0 : ByteArray} {x : Rat} {k : Nat} (ha : Is k ⟨an0, au0, ad0⟩ x) (h : k ≤ 134217728) (hk : ∀ r0 : R, r0 = cr (x) → Is (k) r0 (x) → K (.v (r0.v)) hh) : CallTo P' hh 196 [.v (.agg #[.bool an0, .string au0, .string ad0])] K := by
  refine CallTo.con hP hE (xnorm_q ha h) ⟨rfl, trivial⟩ ?_
  have := hk _ rfl (ha.b).is 
  simp only [outV, outW, List.append_nil]
  exact this
theorem xnorm_p {a : R} {x : Rat} {k : Nat} (ha : Is k a x) (h : k ≤ 134217728) : ∃ (r0 : R), r0 = cr (x) ∧ Is (k) r0 (x) ∧ Con Tryz.prog 196 [.v a.v] (.v (r0.v)) := ⟨_, rfl, (ha.b).is, xnorm_q ha h⟩
theorem xneg_q {a : R} {x : Rat} {k : Nat} (ha : Is k a x) (h : k ≤ 134217728) : Con Tryz.prog 148 [.v a.v] (.v (cr (-x)).v) := by
  obtain ⟨n1, u1, d1⟩ := a
  have c2 := xnorm_q ha.not h
  obtain ⟨r, hr⟩ : ∃ r, r = cr (-x) := ⟨_, rfl⟩
  rw [← hr] at c2 ⊢
  refine Con.of ttOk mixed Tryz.func148 {} .nil 0 (by kernel_rfl) (fun P' E hP hE => ?_)
  clear hr
  cbv
  refine CallTo.w hP hE c2 (by subst hE; exact ⟨rfl, trivial⟩) ?_
  cbv
theorem xneg_c {P' : Program} {E : Env} (hP : P' = Tryz.prog) (hE : E = Env.std) {hh : List Blk} {K : AV → List Blk → Prop} {an0 : Bool} {au0 ad0 : ByteArray} {x : Rat} {k : Nat} (ha : Is k ⟨an0, au0, ad0⟩ x) (h : k ≤ 134217728) (hk : ∀ r0 : R, r0 = cr (-x) → Is (k) r0 (-x) → K (.v (r0.v)) hh) : CallTo P' hh 148 [.v (.agg #[.bool an0, .string au0, .string ad0])] K := by
  refine CallTo.con hP hE (xneg_q ha h) ⟨rfl, trivial⟩ ?_
  have := hk _ rfl (ha.b.neg).is 
  simp only [outV, outW, List.append_nil]
  exact this
theorem xneg_p {a : R} {x : Rat} {k : Nat} (ha : Is k a x) (h : k ≤ 134217728) : ∃ (r0 : R), r0 = cr (-x) ∧ Is (k) r0 (-x) ∧ Con Tryz.prog 148 [.v a.v] (.v (r0.v)) := ⟨_, rfl, (ha.b.neg).is, xneg_q ha h⟩
theorem xsign_q {a : R} {x : Rat} {k : Nat} (ha : Is k a x) (h : k + 1 ≤ 134217728) : Con Tryz.prog 102 [.v a.v] (.v (.int .i64 (cmpQ x 0))) := by
  obtain ⟨an0, au0, ad0⟩ := a
  obtain ⟨r0, e0⟩ : ∃ r, r = cmpQ x 0 := ⟨_, rfl⟩
  rw [← e0]
  have hz := Is.zero
  refine Con.of ttOk mixed Tryz.func102 {} .nil 0 (by kernel_rfl) (fun P' E hP hE => ?_)
  cbv
  refine xcmp_c hP hE (by assumption) (by assumption) (by omega) ?_
  intro m em
  cbv
  rw [e0, em]
theorem xsign_c {P' : Program} {E : Env} (hP : P' = Tryz.prog) (hE : E = Env.std) {hh : List Blk} {K : AV → List Blk → Prop} {an0 : Bool} {au0 ad0 : ByteArray} {x : Rat} {k : Nat} (ha : Is k ⟨an0, au0, ad0⟩ x) (h : k + 1 ≤ 134217728) (hk : ∀ r0 : Int, r0 = cmpQ x 0 → K (.v (.int .i64 r0)) hh) : CallTo P' hh 102 [.v (.agg #[.bool an0, .string au0, .string ad0])] K := by
  refine CallTo.con hP hE (xsign_q ha h) ⟨rfl, trivial⟩ ?_
  have := hk _ rfl
  simp only [outV, outW, List.append_nil]
  exact this
theorem xsign_p {a : R} {x : Rat} {k : Nat} (ha : Is k a x) (h : k + 1 ≤ 134217728) : ∃ (r0 : Int), r0 = cmpQ x 0 ∧ Con Tryz.prog 102 [.v a.v] (.v (.int .i64 r0)) := ⟨_, rfl, xsign_q ha h⟩
theorem rat_inv {n : Int} {d : Nat} (hn : n ≠ 0) (hd : 0 < d) : mkRat (if n < 0 then -(d : Int) else (d : Int)) n.natAbs = (mkRat n d)⁻¹ := by
  have hd' : (d : Rat) ≠ 0 := by
    intro h
    have := Rat.natCast_pos.2 hd
    rw [h] at this
    exact absurd this (by decide)
  have hn' : (n : Rat) ≠ 0 := by
    intro h
    exact hn (Rat.intCast_inj.1 (h.trans Rat.intCast_zero.symm))
  rw [Rat.mkRat_eq_div, Rat.mkRat_eq_div]
  have ha : ((n.natAbs : Nat) : Rat) = if n < 0 then -(n : Rat) else (n : Rat) := by
    rw [← Rat.intCast_natCast]
    split
    · rw [← Rat.intCast_neg, show ((n.natAbs : Nat) : Int) = -n by omega]
    · rw [show ((n.natAbs : Nat) : Int) = n by omega]
  rw [ha]
  have key : (d : Rat) / (n : Rat) = ((n : Rat) / (d : Rat))⁻¹ := by
    have h1 : (d : Rat) / (n : Rat) * (n : Rat) = d := Rat.div_mul_cancel hn'
    have h2 : (n : Rat) / (d : Rat) * (d : Rat) = n := Rat.div_mul_cancel hd'
    have h3 : (n : Rat) / (d : Rat) ≠ 0 := by
      intro h
      rw [h] at h2
      exact hn' (by rw [← h2]; exact Rat.zero_mul _)
    have h4 : (d : Rat) / (n : Rat) * ((n : Rat) / (d : Rat)) = 1 := by
      have : (d : Rat) / (n : Rat) * ((n : Rat) / (d : Rat)) * d = 1 * d := by
        rw [Rat.mul_assoc, h2, h1, Rat.one_mul]
      rw [← Rat.mul_div_cancel (a := (d : Rat) / (n : Rat) * ((n : Rat) / (d : Rat))) hd', this, Rat.one_mul]
      rw [Rat.div_def]; exact Rat.mul_inv_cancel _ hd'
    rw [← Rat.mul_div_cancel (a := (d : Rat) / (n : Rat)) h3, h4, Rat.div_def, Rat.one_mul]
  rw [← key]
  split
  · rw [Rat.intCast_neg, Rat.intCast_natCast]
    have e1 : (-(d : Rat)) / (-(n : Rat)) * (-(n : Rat)) = -(d : Rat) := Rat.div_mul_cancel (by grind)
    have e2 : (d : Rat) / (n : Rat) * (n : Rat) = d := Rat.div_mul_cancel hn'
    have e3 : ((-(d : Rat)) / (-(n : Rat)) - (d : Rat) / (n : Rat)) * (n : Rat) = 0 := by grind
    rcases Rat.mul_eq_zero.1 e3 with h | h
    · grind
    · exact absurd h hn'
  · rw [Rat.intCast_natCast]
theorem xquo_q {a b : R} {x y : Rat} {k l : Nat} (ha : Is k a x) (hb : Is l b y) (h : k + l ≤ 134217728) : Con Tryz.prog 107 [.v a.v, .v b.v] (.v (.tuple #[(cr (x / y)).v, .int .i64 (dvE y)])) := by
  have hlp := hb.b.pos
  obtain ⟨n1, u1, d1⟩ := a
  obtain ⟨n2, u2, d2⟩ := b
  have hq := hb.q
  obtain ⟨sb, xb, yb, zb, wb, lb, mb, pb⟩ := rparts_zp n2 u2 d2 hb.n hb.d hlp (by omega)
  have hy : mkRat (zval n2 u2) (bv (dden d2)) = y := hq
  have dp : 0 < bv (dden d2) := by rw [dden_bv]; omega
  have c0 : xb = ⟨⟨[]⟩⟩ → y = 0 := by
    intro e
    rw [← hy, zb.nil.1 e, Rat.zero_mkRat]
  have c1 : ¬ xb = ⟨⟨[]⟩⟩ → y ≠ 0 ∧ Is l ⟨sb, yb, xb⟩ y⁻¹ := by
    intro e
    have hz : zval n2 u2 ≠ 0 := fun e' => e (zb.nil.2 e')
    refine ⟨?_, mb, lb, ?_, hb.b.inv⟩
    · intro e'
      rw [e'] at hy
      exact hz ((Rat.mkRat_eq_zero (by omega)).1 hy)
    · rw [← hy, ← rat_inv hz dp]
      show mkRat (zval sb yb) (bv (dden xb)) = _
      have e1 : bv (dden xb) = (zval n2 u2).natAbs := by rw [dden_bv, zb.bv]; omega
      have e2 : zval sb yb = if zval n2 u2 < 0 then -(bv (dden d2) : Int) else (bv (dden d2) : Int) := by
        show (if sb = true then -((bv yb : Nat) : Int) else ((bv yb : Nat) : Int)) = _
        rw [wb.bv, zb.s]
        by_cases hc : zval n2 u2 < 0
        · simp [hc]
        · simp [hc]
      rw [e1, e2]
  have hsq : Env.std.sq xb ⟨⟨[]⟩⟩ = decide (xb = ⟨⟨[]⟩⟩) := sq_iff
  obtain ⟨r, hr⟩ : ∃ r, r = cr (x / y) := ⟨_, rfl⟩
  obtain ⟨e, he⟩ : ∃ r, r = dvE y := ⟨_, rfl⟩
  rw [← hr, ← he]
  by_cases hx : xb = ⟨⟨[]⟩⟩
  · have hy0 := c0 hx
    have hr0 : r = ⟨false, ⟨⟨[]⟩⟩, ⟨⟨[]⟩⟩⟩ := by rw [hr, hy0, Rat.div_def, Rat.inv_zero, Rat.mul_zero, cr_zero]
    have he0 : e = 10 := by rw [he, hy0]; rfl
    subst hr0 he0
    rw [hx] at pb
    have hsq1 : Env.std.sq ⟨⟨[]⟩⟩ ⟨⟨[]⟩⟩ = true := s_sqt _ rfl
    clear hsq hr he c0 c1 hy hq
    refine Con.of ttOk mixed Tryz.func107 {} .nil 0 (by kernel_rfl) (fun P' E hP hE => ?_)
    cbv
    refine CallTo.w hP hE pb ⟨rfl, trivial⟩ ?_
    cbv
    refine fork.ya (by subst hE; exact hsq1) ?_
    cbv
  · have hc := c1 hx
    have hm := xmul_q ha hc.2 h
    rw [← Rat.div_def, ← hr] at hm
    have he0 : e = 0 := by rw [he]; unfold dvE; rw [if_neg hc.1]
    subst he0
    have hsq1 := s_sqf xb hx
    clear hsq hr he c0 c1 hy hq hc
    refine Con.of ttOk mixed Tryz.func107 {} .nil 0 (by kernel_rfl) (fun P' E hP hE => ?_)
    cbv
    refine CallTo.w hP hE pb ⟨rfl, trivial⟩ ?_
    cbv
    refine fork.na (by subst hE; exact hsq1) ?_
    cbv
    refine CallTo.w hP hE hm ⟨rfl, rfl, trivial⟩ ?_
    cbv
theorem xquo_c {P' : Program} {E : Env} (hP : P' = Tryz.prog) (hE : E = Env.std) {hh : List Blk} {K : AV → List Blk → Prop} {an0 : Bool} {au0 ad0 : ByteArray} {x : Rat} {k : Nat} {bn0 : Bool} {bu0 bd0 : ByteArray} {y : Rat} {l : Nat} (ha : Is k ⟨an0, au0, ad0⟩ x) (hb : Is l ⟨bn0, bu0, bd0⟩ y) (h : k + l ≤ 134217728) (hk : ∀ r0 : R, r0 = cr (x / y) → Is (k + l) r0 (x / y) → ∀ r1 : Int, r1 = dvE y → K (.v (.tuple #[r0.v, .int .i64 r1])) hh) : CallTo P' hh 107 [.v (.agg #[.bool an0, .string au0, .string ad0]), .v (.agg #[.bool bn0, .string bu0, .string bd0])] K := by
  refine CallTo.con hP hE (xquo_q ha hb h) ⟨rfl, rfl, trivial⟩ ?_
  have := hk _ rfl (ha.b.div hb.b).is  _ rfl
  simp only [outV, outW, List.append_nil]
  exact this
theorem xquo_p {a : R} {x : Rat} {k : Nat} {b : R} {y : Rat} {l : Nat} (ha : Is k a x) (hb : Is l b y) (h : k + l ≤ 134217728) : ∃ (r0 : R) (r1 : Int), r0 = cr (x / y) ∧ Is (k + l) r0 (x / y) ∧ r1 = dvE y ∧ Con Tryz.prog 107 [.v a.v, .v b.v] (.v (.tuple #[r0.v, .int .i64 r1])) := ⟨_, _, rfl, (ha.b.div hb.b).is, rfl, xquo_q ha hb h⟩
theorem xof_q (n : Int) (h0 : -9223372036854775808 ≤ n) (h1 : n < 9223372036854775808) : Con Tryz.prog 149 [.v (.int .i64 n)] (.v (cr (n : Rat)).v) := by
  have c1 := rof_con n h0 h1
  have c2 := rof_con 1 (by decide) (by decide)
  obtain ⟨s, m, z⟩ := Zp.ex n
  have z1 := Zp.nat 1
  have h1 : zV 1 = .agg #[.bool false, .string (mg 1)] := (Zp.nat 1).v
  rw [z.v] at c1
  rw [h1] at c2
  have hs : m.size ≤ 8 := by
    rw [z.m]
    exact mgz_size h0 (by assumption)
  have c3 := rreduce_con s m (mg 1) (by omega) (by rw [mg_one1]; decide) (by rw [bv_mg]; decide)
  rw [z.zval, bv_mg, rI_cr n 1 (by decide), int_q] at c3
  obtain ⟨r, hr⟩ : ∃ r, r = cr (n : Rat) := ⟨_, rfl⟩
  obtain ⟨x1, hx1⟩ : ∃ r, r = mg 1 := ⟨_, rfl⟩
  rw [← hr, ← hx1] at c3
  rw [← hx1] at c2
  rw [← hr]
  clear hr hx1 z z1 hs h1
  unfold zR at c3
  refine Con.of ttOk mixed Tryz.func149 {} .nil 0 (by kernel_rfl) (fun P' E hP hE => ?_)
  cbv
  refine CallTo.w hP hE c1 ⟨rfl, trivial⟩ ?_
  cbv
  refine CallTo.w hP hE c2 ⟨rfl, trivial⟩ ?_
  cbv
  refine CallTo.w hP hE c3 ⟨rfl, rfl, trivial⟩ ?_
  cbv
theorem xofc_c {P' : Program} {E : Env} (hP : P' = Tryz.prog) (hE : E = Env.std) {hh : List Blk} {K : AV → List Blk → Prop} {a : AV} {ab : Bool} {n : Int} (ha : AV.val a = some (ab, .int .i64 n)) (h0 : -9223372036854775808 ≤ n ∧ n < 9223372036854775808) (hk : ∀ r0 : R, r0 = cr (n : Rat) → Is 8 r0 (n : Rat) → K (.v (r0.v)) hh) : CallTo P' hh 149 [a] K := by
  refine CallTo.con hP hE (xof_q n h0.1 h0.2) ⟨fit_val ha, trivial⟩ ?_
  have := hk _ rfl (Bd.int (by have : (256 : Nat) ^ 8 = 18446744073709551616 := by decide
                               omega) (by decide)).is
  simp only [outV, outW, List.append_nil]
  exact this
end Go.Proofs.YtfdealobplcboaaGreat.Sx

/- The reference's points: sum, difference, multiple, products, order; orientation. -/
set_option linter.unusedVariables false
set_option linter.unusedSimpArgs false
set_option maxRecDepth 100000
set_option maxHeartbeats 8000000
namespace Go.Proofs.YtfdealobplcboaaGreat.Sx

theorem yadd_q {a : Pt} {A : Pq} {k : Nat} {b : Pt} {B : Pq} {l : Nat} (ha : IsP k a A) (hb : IsP l b B) (h : k + l ≤ 134217728) : Con Tryz.prog 108 [.v a.v, .v b.v] (.v ((crP (A.add B)).v)) := by
  obtain ⟨⟨an0, au0, ad0⟩, ⟨an1, au1, ad1⟩⟩ := a
  have hax : Is k ⟨an0, au0, ad0⟩ A.x := ha.x
  have hay : Is k ⟨an1, au1, ad1⟩ A.y := ha.y
  obtain ⟨⟨bn0, bu0, bd0⟩, ⟨bn1, bu1, bd1⟩⟩ := b
  have hbx : Is l ⟨bn0, bu0, bd0⟩ B.x := hb.x
  have hby : Is l ⟨bn1, bu1, bd1⟩ B.y := hb.y
  obtain ⟨r0, e0⟩ : ∃ r, r = crP (A.add B) := ⟨_, rfl⟩
  rw [← e0]
  refine Con.of ttOk mixed Tryz.func108 { ord := [(1, [0, 1, 2, 3, 5, 6, 7, 8, 4, 9, 10, 11])] } .nil 0 (by kernel_rfl) (fun P' E hP hE => ?_)
  cbv
  refine xadd_c hP hE (by assumption) (by assumption) (by omega) ?_
  intro c1 ec1 hc1
  cbv
  refine xadd_c hP hE (by assumption) (by assumption) (by omega) ?_
  intro c2 ec2 hc2
  cbv
  rw [e0, ec1, ec2]; rfl
theorem ysub_q {a : Pt} {A : Pq} {k : Nat} {b : Pt} {B : Pq} {l : Nat} (ha : IsP k a A) (hb : IsP l b B) (h : k + l ≤ 134217728) : Con Tryz.prog 100 [.v a.v, .v b.v] (.v ((crP (A.sub B)).v)) := by
  obtain ⟨⟨an0, au0, ad0⟩, ⟨an1, au1, ad1⟩⟩ := a
  have hax : Is k ⟨an0, au0, ad0⟩ A.x := ha.x
  have hay : Is k ⟨an1, au1, ad1⟩ A.y := ha.y
  obtain ⟨⟨bn0, bu0, bd0⟩, ⟨bn1, bu1, bd1⟩⟩ := b
  have hbx : Is l ⟨bn0, bu0, bd0⟩ B.x := hb.x
  have hby : Is l ⟨bn1, bu1, bd1⟩ B.y := hb.y
  obtain ⟨r0, e0⟩ : ∃ r, r = crP (A.sub B) := ⟨_, rfl⟩
  rw [← e0]
  refine Con.of ttOk mixed Tryz.func100 { ord := [(1, [0, 1, 2, 3, 5, 6, 7, 8, 4, 9, 10, 11])] } .nil 0 (by kernel_rfl) (fun P' E hP hE => ?_)
  cbv
  refine xsub_c hP hE (by assumption) (by assumption) (by omega) ?_
  intro c1 ec1 hc1
  cbv
  refine xsub_c hP hE (by assumption) (by assumption) (by omega) ?_
  intro c2 ec2 hc2
  cbv
  rw [e0, ec1, ec2]; rfl
theorem yscale_q {a : Pt} {A : Pq} {k : Nat} {b : R} {x : Rat} {l : Nat} (ha : IsP k a A) (hb : Is l b x) (h : k + l ≤ 134217728) : Con Tryz.prog 109 [.v a.v, .v b.v] (.v ((crP (A.scale x)).v)) := by
  obtain ⟨⟨an0, au0, ad0⟩, ⟨an1, au1, ad1⟩⟩ := a
  have hax : Is k ⟨an0, au0, ad0⟩ A.x := ha.x
  have hay : Is k ⟨an1, au1, ad1⟩ A.y := ha.y
  obtain ⟨bn0, bu0, bd0⟩ := b
  obtain ⟨r0, e0⟩ : ∃ r, r = crP (A.scale x) := ⟨_, rfl⟩
  rw [← e0]
  refine Con.of ttOk mixed Tryz.func109 { ord := [(1, [0, 1, 2, 4, 5, 6, 3, 7, 8, 9])] } .nil 0 (by kernel_rfl) (fun P' E hP hE => ?_)
  cbv
  refine xmul_c hP hE (by assumption) (by assumption) (by omega) ?_
  intro c1 ec1 hc1
  cbv
  refine xmul_c hP hE (by assumption) (by assumption) (by omega) ?_
  intro c2 ec2 hc2
  cbv
  rw [e0, ec1, ec2]; rfl
theorem ydot_q {a : Pt} {A : Pq} {k : Nat} {b : Pt} {B : Pq} {l : Nat} (ha : IsP k a A) (hb : IsP l b B) (h : 2 * (k + l) ≤ 134217728) : Con Tryz.prog 151 [.v a.v, .v b.v] (.v ((cr (A.dot B)).v)) := by
  obtain ⟨⟨an0, au0, ad0⟩, ⟨an1, au1, ad1⟩⟩ := a
  have hax : Is k ⟨an0, au0, ad0⟩ A.x := ha.x
  have hay : Is k ⟨an1, au1, ad1⟩ A.y := ha.y
  obtain ⟨⟨bn0, bu0, bd0⟩, ⟨bn1, bu1, bd1⟩⟩ := b
  have hbx : Is l ⟨bn0, bu0, bd0⟩ B.x := hb.x
  have hby : Is l ⟨bn1, bu1, bd1⟩ B.y := hb.y
  obtain ⟨r0, e0⟩ : ∃ r, r = cr (A.dot B) := ⟨_, rfl⟩
  rw [← e0]
  refine Con.of ttOk mixed Tryz.func151 { ord := [(1, [0, 1, 2, 3, 5, 6, 7, 8, 4, 9, 10, 11])] } .nil 0 (by kernel_rfl) (fun P' E hP hE => ?_)
  cbv
  refine xmul_c hP hE (by assumption) (by assumption) (by omega) ?_
  intro c1 ec1 hc1
  cbv
  refine xmul_c hP hE (by assumption) (by assumption) (by omega) ?_
  intro c2 ec2 hc2
  cbv
  refine xadd_c hP hE (by assumption) (by assumption) (by omega) ?_
  intro c3 ec3 hc3
  cbv
  rw [e0, ec3]; rfl
theorem ycross_q {a : Pt} {A : Pq} {k : Nat} {b : Pt} {B : Pq} {l : Nat} (ha : IsP k a A) (hb : IsP l b B) (h : 2 * (k + l) ≤ 134217728) : Con Tryz.prog 101 [.v a.v, .v b.v] (.v ((cr (A.cross B)).v)) := by
  obtain ⟨⟨an0, au0, ad0⟩, ⟨an1, au1, ad1⟩⟩ := a
  have hax : Is k ⟨an0, au0, ad0⟩ A.x := ha.x
  have hay : Is k ⟨an1, au1, ad1⟩ A.y := ha.y
  obtain ⟨⟨bn0, bu0, bd0⟩, ⟨bn1, bu1, bd1⟩⟩ := b
  have hbx : Is l ⟨bn0, bu0, bd0⟩ B.x := hb.x
  have hby : Is l ⟨bn1, bu1, bd1⟩ B.y := hb.y
  obtain ⟨r0, e0⟩ : ∃ r, r = cr (A.cross B) := ⟨_, rfl⟩
  rw [← e0]
  refine Con.of ttOk mixed Tryz.func101 { ord := [(1, [0, 1, 2, 3, 5, 6, 7, 8, 4, 9, 10, 11])] } .nil 0 (by kernel_rfl) (fun P' E hP hE => ?_)
  cbv
  refine xmul_c hP hE (by assumption) (by assumption) (by omega) ?_
  intro c1 ec1 hc1
  cbv
  refine xmul_c hP hE (by assumption) (by assumption) (by omega) ?_
  intro c2 ec2 hc2
  cbv
  refine xsub_c hP hE (by assumption) (by assumption) (by omega) ?_
  intro c3 ec3 hc3
  cbv
  rw [e0, ec3]; rfl
theorem yadd_c {P' : Program} {E : Env} (hP : P' = Tryz.prog) (hE : E = Env.std) {hh : List Blk} {K : AV → List Blk → Prop} {an0 an1 : Bool} {au0 ad0 au1 ad1 : ByteArray} {A : Pq} {k : Nat} {bn0 bn1 : Bool} {bu0 bd0 bu1 bd1 : ByteArray} {B : Pq} {l : Nat} (ha : IsP k ⟨⟨an0, au0, ad0⟩, ⟨an1, au1, ad1⟩⟩ A) (hb : IsP l ⟨⟨bn0, bu0, bd0⟩, ⟨bn1, bu1, bd1⟩⟩ B) (h : k + l ≤ 134217728) (hk : ∀ r0 : Pt, r0 = crP (A.add B) → IsP (k + l + 1) r0 (A.add B) → Is (k + l + 1) r0.x (A.add B).x → Is (k + l + 1) r0.y (A.add B).y → K (.v (r0.v)) hh) : CallTo P' hh 108 [.v (.agg #[.bool an0, .string au0, .string ad0, .bool an1, .string au1, .string ad1]), .v (.agg #[.bool bn0, .string bu0, .string bd0, .bool bn1, .string bu1, .string bd1])] K := by
  refine CallTo.con hP hE (yadd_q ha hb h) ⟨rfl, rfl, trivial⟩ ?_
  have := hk _ rfl (ha.b.add hb.b).is (ha.b.add hb.b).is.x (ha.b.add hb.b).is.y
  simp only [outV, outW, List.append_nil]
  exact this
theorem yadd_p {a : Pt} {A : Pq} {k : Nat} {b : Pt} {B : Pq} {l : Nat} (ha : IsP k a A) (hb : IsP l b B) (h : k + l ≤ 134217728) : ∃ (r0 : Pt), r0 = crP (A.add B) ∧ IsP (k + l + 1) r0 (A.add B) ∧ Con Tryz.prog 108 [.v a.v, .v b.v] (.v (r0.v)) := ⟨_, rfl, (ha.b.add hb.b).is, yadd_q ha hb h⟩
theorem ysub_c {P' : Program} {E : Env} (hP : P' = Tryz.prog) (hE : E = Env.std) {hh : List Blk} {K : AV → List Blk → Prop} {an0 an1 : Bool} {au0 ad0 au1 ad1 : ByteArray} {A : Pq} {k : Nat} {bn0 bn1 : Bool} {bu0 bd0 bu1 bd1 : ByteArray} {B : Pq} {l : Nat} (ha : IsP k ⟨⟨an0, au0, ad0⟩, ⟨an1, au1, ad1⟩⟩ A) (hb : IsP l ⟨⟨bn0, bu0, bd0⟩, ⟨bn1, bu1, bd1⟩⟩ B) (h : k + l ≤ 134217728) (hk : ∀ r0 : Pt, r0 = crP (A.sub B) → IsP (k + l + 1) r0 (A.sub B) → Is (k + l + 1) r0.x (A.sub B).x → Is (k + l + 1) r0.y (A.sub B).y → K (.v (r0.v)) hh) : CallTo P' hh 100 [.v (.agg #[.bool an0, .string au0, .string ad0, .bool an1, .string au1, .string ad1]), .v (.agg #[.bool bn0, .string bu0, .string bd0, .bool bn1, .string bu1, .string bd1])] K := by
  refine CallTo.con hP hE (ysub_q ha hb h) ⟨rfl, rfl, trivial⟩ ?_
  have := hk _ rfl (ha.b.sub hb.b).is (ha.b.sub hb.b).is.x (ha.b.sub hb.b).is.y
  simp only [outV, outW, List.append_nil]
  exact this
theorem ysub_p {a : Pt} {A : Pq} {k : Nat} {b : Pt} {B : Pq} {l : Nat} (ha : IsP k a A) (hb : IsP l b B) (h : k + l ≤ 134217728) : ∃ (r0 : Pt), r0 = crP (A.sub B) ∧ IsP (k + l + 1) r0 (A.sub B) ∧ Con Tryz.prog 100 [.v a.v, .v b.v] (.v (r0.v)) := ⟨_, rfl, (ha.b.sub hb.b).is, ysub_q ha hb h⟩
theorem yscale_c {P' : Program} {E : Env} (hP : P' = Tryz.prog) (hE : E = Env.std) {hh : List Blk} {K : AV → List Blk → Prop} {an0 an1 : Bool} {au0 ad0 au1 ad1 : ByteArray} {A : Pq} {k : Nat} {bn0 : Bool} {bu0 bd0 : ByteArray} {x : Rat} {l : Nat} (ha : IsP k ⟨⟨an0, au0, ad0⟩, ⟨an1, au1, ad1⟩⟩ A) (hb : Is l ⟨bn0, bu0, bd0⟩ x) (h : k + l ≤ 134217728) (hk : ∀ r0 : Pt, r0 = crP (A.scale x) → IsP (k + l) r0 (A.scale x) → Is (k + l) r0.x (A.scale x).x → Is (k + l) r0.y (A.scale x).y → K (.v (r0.v)) hh) : CallTo P' hh 109 [.v (.agg #[.bool an0, .string au0, .string ad0, .bool an1, .string au1, .string ad1]), .v (.agg #[.bool bn0, .string bu0, .string bd0])] K := by
  refine CallTo.con hP hE (yscale_q ha hb h) ⟨rfl, rfl, trivial⟩ ?_
  have := hk _ rfl (ha.b.scale hb.b).is (ha.b.scale hb.b).is.x (ha.b.scale hb.b).is.y
  simp only [outV, outW, List.append_nil]
  exact this
theorem yscale_p {a : Pt} {A : Pq} {k : Nat} {b : R} {x : Rat} {l : Nat} (ha : IsP k a A) (hb : Is l b x) (h : k + l ≤ 134217728) : ∃ (r0 : Pt), r0 = crP (A.scale x) ∧ IsP (k + l) r0 (A.scale x) ∧ Con Tryz.prog 109 [.v a.v, .v b.v] (.v (r0.v)) := ⟨_, rfl, (ha.b.scale hb.b).is, yscale_q ha hb h⟩
theorem ydot_c {P' : Program} {E : Env} (hP : P' = Tryz.prog) (hE : E = Env.std) {hh : List Blk} {K : AV → List Blk → Prop} {an0 an1 : Bool} {au0 ad0 au1 ad1 : ByteArray} {A : Pq} {k : Nat} {bn0 bn1 : Bool} {bu0 bd0 bu1 bd1 : ByteArray} {B : Pq} {l : Nat} (ha : IsP k ⟨⟨an0, au0, ad0⟩, ⟨an1, au1, ad1⟩⟩ A) (hb : IsP l ⟨⟨bn0, bu0, bd0⟩, ⟨bn1, bu1, bd1⟩⟩ B) (h : 2 * (k + l) ≤ 134217728) (hk : ∀ r0 : R, r0 = cr (A.dot B) → Is (2 * (k + l) + 1) r0 (A.dot B) → K (.v (r0.v)) hh) : CallTo P' hh 151 [.v (.agg #[.bool an0, .string au0, .string ad0, .bool an1, .string au1, .string ad1]), .v (.agg #[.bool bn0, .string bu0, .string bd0, .bool bn1, .string bu1, .string bd1])] K := by
  refine CallTo.con hP hE (ydot_q ha hb h) ⟨rfl, rfl, trivial⟩ ?_
  have := hk _ rfl (ha.b.dot hb.b).is 
  simp only [outV, outW, List.append_nil]
  exact this
theorem ydot_p {a : Pt} {A : Pq} {k : Nat} {b : Pt} {B : Pq} {l : Nat} (ha : IsP k a A) (hb : IsP l b B) (h : 2 * (k + l) ≤ 134217728) : ∃ (r0 : R), r0 = cr (A.dot B) ∧ Is (2 * (k + l) + 1) r0 (A.dot B) ∧ Con Tryz.prog 151 [.v a.v, .v b.v] (.v (r0.v)) := ⟨_, rfl, (ha.b.dot hb.b).is, ydot_q ha hb h⟩
theorem ycross_c {P' : Program} {E : Env} (hP : P' = Tryz.prog) (hE : E = Env.std) {hh : List Blk} {K : AV → List Blk → Prop} {an0 an1 : Bool} {au0 ad0 au1 ad1 : ByteArray} {A : Pq} {k : Nat} {bn0 bn1 : Bool} {bu0 bd0 bu1 bd1 : ByteArray} {B : Pq} {l : Nat} (ha : IsP k ⟨⟨an0, au0, ad0⟩, ⟨an1, au1, ad1⟩⟩ A) (hb : IsP l ⟨⟨bn0, bu0, bd0⟩, ⟨bn1, bu1, bd1⟩⟩ B) (h : 2 * (k + l) ≤ 134217728) (hk : ∀ r0 : R, r0 = cr (A.cross B) → Is (2 * (k + l) + 1) r0 (A.cross B) → K (.v (r0.v)) hh) : CallTo P' hh 101 [.v (.agg #[.bool an0, .string au0, .string ad0, .bool an1, .string au1, .string ad1]), .v (.agg #[.bool bn0, .string bu0, .string bd0, .bool bn1, .string bu1, .string bd1])] K := by
  refine CallTo.con hP hE (ycross_q ha hb h) ⟨rfl, rfl, trivial⟩ ?_
  have := hk _ rfl (ha.b.cross hb.b).is 
  simp only [outV, outW, List.append_nil]
  exact this
theorem ycross_p {a : Pt} {A : Pq} {k : Nat} {b : Pt} {B : Pq} {l : Nat} (ha : IsP k a A) (hb : IsP l b B) (h : 2 * (k + l) ≤ 134217728) : ∃ (r0 : R), r0 = cr (A.cross B) ∧ Is (2 * (k + l) + 1) r0 (A.cross B) ∧ Con Tryz.prog 101 [.v a.v, .v b.v] (.v (r0.v)) := ⟨_, rfl, (ha.b.cross hb.b).is, ycross_q ha hb h⟩
theorem ycmp_q {a : Pt} {A : Pq} {k : Nat} {b : Pt} {B : Pq} {l : Nat} (ha : IsP k a A) (hb : IsP l b B) (h : k + l ≤ 134217728) : Con Tryz.prog 106 [.v a.v, .v b.v] (.v (.int .i64 (cmpP A B))) := by
  obtain ⟨⟨an0, au0, ad0⟩, ⟨an1, au1, ad1⟩⟩ := a
  have hax : Is k ⟨an0, au0, ad0⟩ A.x := ha.x
  have hay : Is k ⟨an1, au1, ad1⟩ A.y := ha.y
  obtain ⟨⟨bn0, bu0, bd0⟩, ⟨bn1, bu1, bd1⟩⟩ := b
  have hbx : Is l ⟨bn0, bu0, bd0⟩ B.x := hb.x
  have hby : Is l ⟨bn1, bu1, bd1⟩ B.y := hb.y
  obtain ⟨r0, e0⟩ : ∃ r, r = cmpP A B := ⟨_, rfl⟩
  rw [← e0]
  refine Con.of ttOk mixed Tryz.func106 {} .nil 0 (by kernel_rfl) (fun P' E hP hE => ?_)
  cbv
  refine xcmp_c hP hE (by assumption) (by assumption) (by omega) ?_
  intro m1 em1
  cbv
  refine fork.mk ?_ ?_
  · intro k1
    cbv
    subst hE
    have k1 : Env.std.ic .neq m1 0 = true := k1
    simp at k1
    rw [e0, em1, cmpP, if_pos (by rw [← em1]; exact k1)]
  · intro k1
    cbv
    refine xcmp_c hP hE (by assumption) (by assumption) (by omega) ?_
    intro m2 em2
    cbv
    subst hE
    have k1 : Env.std.ic .neq m1 0 = false := k1
    simp at k1
    rw [e0, em2, cmpP, if_neg (by rw [← em1, k1]; simp)]
theorem ycmp_c {P' : Program} {E : Env} (hP : P' = Tryz.prog) (hE : E = Env.std) {hh : List Blk} {K : AV → List Blk → Prop} {an0 an1 : Bool} {au0 ad0 au1 ad1 : ByteArray} {A : Pq} {k : Nat} {bn0 bn1 : Bool} {bu0 bd0 bu1 bd1 : ByteArray} {B : Pq} {l : Nat} (ha : IsP k ⟨⟨an0, au0, ad0⟩, ⟨an1, au1, ad1⟩⟩ A) (hb : IsP l ⟨⟨bn0, bu0, bd0⟩, ⟨bn1, bu1, bd1⟩⟩ B) (h : k + l ≤ 134217728) (hk : ∀ r0 : Int, r0 = cmpP A B → K (.v (.int .i64 r0)) hh) : CallTo P' hh 106 [.v (.agg #[.bool an0, .string au0, .string ad0, .bool an1, .string au1, .string ad1]), .v (.agg #[.bool bn0, .string bu0, .string bd0, .bool bn1, .string bu1, .string bd1])] K := by
  refine CallTo.con hP hE (ycmp_q ha hb h) ⟨rfl, rfl, trivial⟩ ?_
  have := hk _ rfl
  simp only [outV, outW, List.append_nil]
  exact this
theorem ycmp_p {a : Pt} {A : Pq} {k : Nat} {b : Pt} {B : Pq} {l : Nat} (ha : IsP k a A) (hb : IsP l b B) (h : k + l ≤ 134217728) : ∃ (r0 : Int), r0 = cmpP A B ∧ Con Tryz.prog 106 [.v a.v, .v b.v] (.v (.int .i64 r0)) := ⟨_, rfl, ycmp_q ha hb h⟩
theorem yat_q {a : Pt} {A : Pq} {k : Nat} {b : Pt} {B : Pq} {l : Nat} {c : R} {x : Rat} {m : Nat} (ha : IsP k a A) (hb : IsP l b B) (hc : Is m c x) (h : 2 * k + l + m + 1 ≤ 134217728) : Con Tryz.prog 147 [.v a.v, .v b.v, .v c.v] (.v ((crP (A.at B x)).v)) := by
  obtain ⟨⟨an0, au0, ad0⟩, ⟨an1, au1, ad1⟩⟩ := a
  have hax : Is k ⟨an0, au0, ad0⟩ A.x := ha.x
  have hay : Is k ⟨an1, au1, ad1⟩ A.y := ha.y
  obtain ⟨⟨bn0, bu0, bd0⟩, ⟨bn1, bu1, bd1⟩⟩ := b
  have hbx : Is l ⟨bn0, bu0, bd0⟩ B.x := hb.x
  have hby : Is l ⟨bn1, bu1, bd1⟩ B.y := hb.y
  obtain ⟨cn0, cu0, cd0⟩ := c
  obtain ⟨r0, e0⟩ : ∃ r, r = crP (A.at B x) := ⟨_, rfl⟩
  rw [← e0]
  refine Con.of ttOk mixed Tryz.func147 { ord := [(1, [0, 1, 2, 4, 3, 5, 6, 7])] } .nil 0 (by kernel_rfl) (fun P' E hP hE => ?_)
  cbv
  refine ysub_c hP hE (by assumption) (by assumption) (by omega) ?_
  intro c1 ec1 hc1 hc1x hc1y
  cbv
  refine yscale_c hP hE (by assumption) (by assumption) (by omega) ?_
  intro c2 ec2 hc2 hc2x hc2y
  cbv
  refine yadd_c hP hE (by assumption) (by assumption) (by omega) ?_
  intro c3 ec3 hc3 hc3x hc3y
  cbv
  rw [e0, ec3]; rfl
theorem yat_c {P' : Program} {E : Env} (hP : P' = Tryz.prog) (hE : E = Env.std) {hh : List Blk} {K : AV → List Blk → Prop} {an0 an1 : Bool} {au0 ad0 au1 ad1 : ByteArray} {A : Pq} {k : Nat} {bn0 bn1 : Bool} {bu0 bd0 bu1 bd1 : ByteArray} {B : Pq} {l : Nat} {cn0 : Bool} {cu0 cd0 : ByteArray} {x : Rat} {m : Nat} (ha : IsP k ⟨⟨an0, au0, ad0⟩, ⟨an1, au1, ad1⟩⟩ A) (hb : IsP l ⟨⟨bn0, bu0, bd0⟩, ⟨bn1, bu1, bd1⟩⟩ B) (hc : Is m ⟨cn0, cu0, cd0⟩ x) (h : 2 * k + l + m + 1 ≤ 134217728) (hk : ∀ r0 : Pt, r0 = crP (A.at B x) → IsP (2 * k + l + m + 2) r0 (A.at B x) → Is (2 * k + l + m + 2) r0.x (A.at B x).x → Is (2 * k + l + m + 2) r0.y (A.at B x).y → K (.v (r0.v)) hh) : CallTo P' hh 147 [.v (.agg #[.bool an0, .string au0, .string ad0, .bool an1, .string au1, .string ad1]), .v (.agg #[.bool bn0, .string bu0, .string bd0, .bool bn1, .string bu1, .string bd1]), .v (.agg #[.bool cn0, .string cu0, .string cd0])] K := by
  refine CallTo.con hP hE (yat_q ha hb hc h) ⟨rfl, rfl, rfl, trivial⟩ ?_
  have := hk _ rfl (ha.b.at hb.b hc.b).is (ha.b.at hb.b hc.b).is.x (ha.b.at hb.b hc.b).is.y
  simp only [outV, outW, List.append_nil]
  exact this
theorem yat_p {a : Pt} {A : Pq} {k : Nat} {b : Pt} {B : Pq} {l : Nat} {c : R} {x : Rat} {m : Nat} (ha : IsP k a A) (hb : IsP l b B) (hc : Is m c x) (h : 2 * k + l + m + 1 ≤ 134217728) : ∃ (r0 : Pt), r0 = crP (A.at B x) ∧ IsP (2 * k + l + m + 2) r0 (A.at B x) ∧ Con Tryz.prog 147 [.v a.v, .v b.v, .v c.v] (.v (r0.v)) := ⟨_, rfl, (ha.b.at hb.b hc.b).is, yat_q ha hb hc h⟩
theorem yor_q {a : Pt} {A : Pq} {k : Nat} {b : Pt} {B : Pq} {c : Pt} {C : Pq} (ha : IsP k a A) (hb : IsP k b B) (hc : IsP k c C) (h : 16 * k + 16 ≤ 134217728) : Con Tryz.prog 103 [.v a.v, .v b.v, .v c.v] (.v (.int .i64 (orQ A B C))) := by
  obtain ⟨⟨an0, au0, ad0⟩, ⟨an1, au1, ad1⟩⟩ := a
  have hax : Is k ⟨an0, au0, ad0⟩ A.x := ha.x
  have hay : Is k ⟨an1, au1, ad1⟩ A.y := ha.y
  obtain ⟨⟨bn0, bu0, bd0⟩, ⟨bn1, bu1, bd1⟩⟩ := b
  have hbx : Is k ⟨bn0, bu0, bd0⟩ B.x := hb.x
  have hby : Is k ⟨bn1, bu1, bd1⟩ B.y := hb.y
  obtain ⟨⟨cn0, cu0, cd0⟩, ⟨cn1, cu1, cd1⟩⟩ := c
  have hcx : Is k ⟨cn0, cu0, cd0⟩ C.x := hc.x
  have hcy : Is k ⟨cn1, cu1, cd1⟩ C.y := hc.y
  obtain ⟨r0, e0⟩ : ∃ r, r = orQ A B C := ⟨_, rfl⟩
  rw [← e0]
  refine Con.of ttOk mixed Tryz.func103 { ord := [(1, [0, 1, 3, 4, 2, 5, 6, 7, 8])] } .nil 0 (by kernel_rfl) (fun P' E hP hE => ?_)
  cbv
  refine ysub_c hP hE (by assumption) (by assumption) (by omega) ?_
  intro c1 ec1 hc1 hc1x hc1y
  cbv
  refine ysub_c hP hE (by assumption) (by assumption) (by omega) ?_
  intro c2 ec2 hc2 hc2x hc2y
  cbv
  refine ycross_c hP hE (by assumption) (by assumption) (by omega) ?_
  intro c3 ec3 hc3
  cbv
  refine xsign_c hP hE (by assumption) (by omega) ?_
  intro m4 em4
  cbv
  rw [e0, em4]; rfl
theorem yor_c {P' : Program} {E : Env} (hP : P' = Tryz.prog) (hE : E = Env.std) {hh : List Blk} {K : AV → List Blk → Prop} {an0 an1 : Bool} {au0 ad0 au1 ad1 : ByteArray} {A : Pq} {k : Nat} {bn0 bn1 : Bool} {bu0 bd0 bu1 bd1 : ByteArray} {B : Pq} {cn0 cn1 : Bool} {cu0 cd0 cu1 cd1 : ByteArray} {C : Pq} (ha : IsP k ⟨⟨an0, au0, ad0⟩, ⟨an1, au1, ad1⟩⟩ A) (hb : IsP k ⟨⟨bn0, bu0, bd0⟩, ⟨bn1, bu1, bd1⟩⟩ B) (hc : IsP k ⟨⟨cn0, cu0, cd0⟩, ⟨cn1, cu1, cd1⟩⟩ C) (h : 16 * k + 16 ≤ 134217728) (hk : ∀ r0 : Int, r0 = orQ A B C → K (.v (.int .i64 r0)) hh) : CallTo P' hh 103 [.v (.agg #[.bool an0, .string au0, .string ad0, .bool an1, .string au1, .string ad1]), .v (.agg #[.bool bn0, .string bu0, .string bd0, .bool bn1, .string bu1, .string bd1]), .v (.agg #[.bool cn0, .string cu0, .string cd0, .bool cn1, .string cu1, .string cd1])] K := by
  refine CallTo.con hP hE (yor_q ha hb hc h) ⟨rfl, rfl, rfl, trivial⟩ ?_
  have := hk _ rfl
  simp only [outV, outW, List.append_nil]
  exact this
theorem yor_p {a : Pt} {A : Pq} {k : Nat} {b : Pt} {B : Pq} {c : Pt} {C : Pq} (ha : IsP k a A) (hb : IsP k b B) (hc : IsP k c C) (h : 16 * k + 16 ≤ 134217728) : ∃ (r0 : Int), r0 = orQ A B C ∧ Con Tryz.prog 103 [.v a.v, .v b.v, .v c.v] (.v (.int .i64 r0)) := ⟨_, rfl, yor_q ha hb hc h⟩
end Go.Proofs.YtfdealobplcboaaGreat.Sx

/- The reference's answers on two segments are those of the functions: the plain part of SegmentPairs. No program stands here. -/
set_option linter.unusedVariables false
set_option linter.unusedSimpArgs false
set_option maxRecDepth 100000
set_option maxHeartbeats 4000000
namespace Go.Proofs.YtfdealobplcboaaGreat.Sx

/-- The reference: does an ordered segment contain a point of its line? -/
def inQ (s : Sq) (p : Pq) : Bool := decide (cmpP s.a p ≤ 0 ∧ cmpP p s.b ≤ 0)
def onR (s : Sq) (p : Pq) : Bool := decide (orQ s.a s.b p = 0) && inQ (ordS s) p
theorem onR_eq (s : Sq) (p : Pq) : onR s p = onQ s p := by
  rw [Bool.eq_iff_iff, on_iff, on_lex]
  unfold onR inQ orQ
  rw [Bool.and_eq_true, decide_eq_true_iff, decide_eq_true_iff, cmpQ_eq, leP_cmp, leP_cmp]
theorem on_ord (s : Sq) (x : Pq) : OnS (ordS s) x ↔ OnS s x := by
  rcases ord_cases s with ⟨h1, h2⟩ | ⟨h1, h2⟩
  · have : ordS s = s := Sq.iff.2 ⟨h1, h2⟩
    rw [this]
  · have : ordS s = s.turn := Sq.iff.2 ⟨h1, h2⟩
    rw [this, on_turn]
theorem ord_ord (s : Sq) : ordS (ordS s) = ordS s := by
  have h : ¬ 0 < cmpP (ordS s).a (ordS s).b := fun c => leP_lt.2 c (ordS_le s)
  rw [ordS, if_neg h]
theorem ord_ne {s : Sq} (h : s.a ≠ s.b) : (ordS s).a ≠ (ordS s).b := by
  rcases ord_cases s with ⟨h1, h2⟩ | ⟨h1, h2⟩
  · rw [h1, h2]; exact h
  · rw [h1, h2]; exact fun e => h e.symm
/-- The reference's common points of two ordered segments. -/
def meet1 (s t : Sq) : Option Sq :=
  if cmpQ ((s.b.sub s.a).cross (t.b.sub t.a)) 0 = 0 then
    if orQ s.a s.b t.a ≠ 0 then none
    else if cmpP (grP s.a t.a) (lsP s.b t.b) > 0 then none
    else some ⟨grP s.a t.a, lsP s.b t.b⟩
  else
    if inQ s (s.a.add ((s.b.sub s.a).scale (((t.a.sub s.a).cross (t.b.sub t.a)) / ((s.b.sub s.a).cross (t.b.sub t.a))))) = true ∧ inQ t (s.a.add ((s.b.sub s.a).scale (((t.a.sub s.a).cross (t.b.sub t.a)) / ((s.b.sub s.a).cross (t.b.sub t.a))))) = true then
      some ⟨s.a.add ((s.b.sub s.a).scale (((t.a.sub s.a).cross (t.b.sub t.a)) / ((s.b.sub s.a).cross (t.b.sub t.a)))), s.a.add ((s.b.sub s.a).scale (((t.a.sub s.a).cross (t.b.sub t.a)) / ((s.b.sub s.a).cross (t.b.sub t.a))))⟩
    else none
/-- A point of an ordered segment's line lies on it exactly if its parameter lies between 0 and 1. -/
theorem in_at {s : Sq} (hs : s.a ≠ s.b) (ho : ordS s = s) (x : Rat) : inQ s (s.a.at s.b x) = true ↔ 0 ≤ x ∧ x ≤ 1 := by
  have hl := on_lex s (s.a.at s.b x)
  have hc : (s.b.sub s.a).cross ((s.a.at s.b x).sub s.a) = 0 := by
    simp only [Pq.at, Pq.add, Pq.scale, Pq.sub, Pq.cross]; grind
  rw [ho] at hl
  unfold inQ
  rw [decide_eq_true_iff, leP_cmp, leP_cmp]
  constructor
  · intro h
    obtain ⟨t, h0, h1, e⟩ := hl.2 ⟨hc, h⟩
    have e1 := (Pq.iff.1 e).1
    have e2 := (Pq.iff.1 e).2
    simp only [Pq.at, Pq.add, Pq.scale, Pq.sub] at e1 e2
    have : t = x := by
      refine Classical.byContradiction fun c => ?_
      have f1 : (s.b.x - s.a.x) * (x - t) = 0 := by grind
      have f2 : (s.b.y - s.a.y) * (x - t) = 0 := by grind
      have g : x - t ≠ 0 := by grind
      rcases Rat.mul_eq_zero.1 f1 with f1 | f1
      · rcases Rat.mul_eq_zero.1 f2 with f2 | f2
        · exact hs (Pq.ext' (by grind) (by grind))
        · exact g f2
      · exact g f1
    rw [← this]; exact ⟨h0, h1⟩
  · rintro ⟨h0, h1⟩
    exact (hl.1 ⟨x, h0, h1, rfl⟩).2
theorem meet1_eq {s t : Sq} (hs : s.a ≠ s.b) (ht : t.a ≠ t.b) (hos : ordS s = s) (hot : ordS t = t) : meet1 s t = meetQ s t := by
  by_cases hd : (s.b.sub s.a).cross (t.b.sub t.a) = 0
  · have e1 : meetQ s t = if orQ s.a s.b t.a ≠ 0 then none else if cmpP (grP s.a t.a) (lsP s.b t.b) > 0 then none else some ⟨grP s.a t.a, lsP s.b t.b⟩ := by
      unfold meetQ
      rw [if_neg (fun h => h (cmpQ_eq.2 hd)), hos, hot]
      rfl
    rw [e1]
    unfold meet1
    rw [if_pos (cmpQ_eq.2 hd)]
  · obtain ⟨x, hx⟩ : ∃ x, x = ((t.a.sub s.a).cross (t.b.sub t.a)) / ((s.b.sub s.a).cross (t.b.sub t.a)) := ⟨_, rfl⟩
    obtain ⟨y, hy⟩ : ∃ y, y = ((t.a.sub s.a).cross (s.b.sub s.a)) / ((s.b.sub s.a).cross (t.b.sub t.a)) := ⟨_, rfl⟩
    rw [meet_gen hd hx hy]
    unfold meet1
    rw [if_neg (fun h => hd (cmpQ_eq.1 h)), ← hx]
    have e1 : s.a.add ((s.b.sub s.a).scale x) = s.a.at s.b x := rfl
    have hxd : x * ((s.b.sub s.a).cross (t.b.sub t.a)) = (t.a.sub s.a).cross (t.b.sub t.a) := by rw [hx]; exact Rat.div_mul_cancel hd
    have hyd : y * ((s.b.sub s.a).cross (t.b.sub t.a)) = (t.a.sub s.a).cross (s.b.sub s.a) := by rw [hy]; exact Rat.div_mul_cancel hd
    have e2 : s.a.at s.b x = t.a.at t.b y := by
      obtain ⟨d, hdd⟩ : ∃ d, d = (s.b.sub s.a).cross (t.b.sub t.a) := ⟨_, rfl⟩
      rw [← hdd] at hxd hyd hd
      have f1 : (s.a.at s.b x).x * d = (t.a.at t.b y).x * d := by
        have a1 : (s.a.at s.b x).x * d = s.a.x * d + (s.b.x - s.a.x) * (x * d) := by simp only [Pq.at, Pq.add, Pq.scale, Pq.sub]; grind
        have a2 : (t.a.at t.b y).x * d = t.a.x * d + (t.b.x - t.a.x) * (y * d) := by simp only [Pq.at, Pq.add, Pq.scale, Pq.sub]; grind
        rw [a1, a2, hxd, hyd, hdd]
        simp only [Pq.sub, Pq.cross]; grind
      have f2 : (s.a.at s.b x).y * d = (t.a.at t.b y).y * d := by
        have a1 : (s.a.at s.b x).y * d = s.a.y * d + (s.b.y - s.a.y) * (x * d) := by simp only [Pq.at, Pq.add, Pq.scale, Pq.sub]; grind
        have a2 : (t.a.at t.b y).y * d = t.a.y * d + (t.b.y - t.a.y) * (y * d) := by simp only [Pq.at, Pq.add, Pq.scale, Pq.sub]; grind
        rw [a1, a2, hxd, hyd, hdd]
        simp only [Pq.sub, Pq.cross]; grind
      have cancel : ∀ {u v : Rat}, u * d = v * d → u = v := by
        intro u v h
        have : (u - v) * d = 0 := by grind
        rcases Rat.mul_eq_zero.1 this with h | h
        · grind
        · exact absurd h hd
      exact Pq.ext' (cancel f1) (cancel f2)
    rw [e1]
    have c1 := in_at hs hos x
    have c2 := in_at ht hot y
    rw [← e2] at c2
    simp only [c1, c2]
theorem meet_ref {s t : Sq} (hs : s.a ≠ s.b) (ht : t.a ≠ t.b) : meet1 (ordS s) (ordS t) = meetQ s t := by
  rw [meet1_eq (ord_ne hs) (ord_ne ht) (ord_ord s) (ord_ord t)]
  exact meet_ext (ord_ne hs) (ord_ne ht) hs ht (fun x => by rw [on_ord, on_ord])
/-- The reference's Cross. -/
def crossR (s t : Sq) : Bool := decide (orQ s.a s.b t.a * orQ s.a s.b t.b < 0 ∧ orQ t.a t.b s.a * orQ t.a t.b s.b < 0)
theorem or_prod {a b c d e f : Pq} : orQ a b c * orQ d e f < 0 ↔ orQ a b c * orQ d e f = -1 := by
  have h1 := cmpQ_rng ((b.sub a).cross (c.sub a)) 0
  have h2 := cmpQ_rng ((e.sub d).cross (f.sub d)) 0
  unfold orQ
  rcases h1 with h1 | h1 | h1 <;> rcases h2 with h2 | h2 | h2 <;> rw [h1, h2] <;> decide
theorem crossR_eq (s t : Sq) : crossR s t = crossQ s t := by
  rw [Bool.eq_iff_iff, cross_iff]
  unfold crossR sidesQ
  rw [decide_eq_true_iff, or_prod, or_prod]
/-- The union of two segments of a line: its error, and what it is. -/
def joinE (s t : Sq) : Int := if wrongQ s t = true then 12 else if orQ s.a s.b t.a ≠ 0 ∨ orQ s.a s.b t.b ≠ 0 then 9 else if (meetQ s t).isSome = true then 0 else 11
def joinS (s t : Sq) : Sq := if joinE s t = 0 then ⟨lsP (ordS s).a (ordS t).a, grP (ordS s).b (ordS t).b⟩ else Sq.zero
def joinR (s t : Sq) : Int := if wrongQ s t = true then 12 else if orQ s.a s.b t.a ≠ 0 ∨ orQ s.a s.b t.b ≠ 0 then 9 else if cmpP (ordS s).b (ordS t).a < 0 ∨ cmpP (ordS t).b (ordS s).a < 0 then 11 else 0
theorem cmpP_neg {p q : Pq} : cmpP p q < 0 ↔ ¬ leP q p := by
  rw [leP_lt, cmpP_gt, cmpP_lt]; grind
theorem joinR_eq (s t : Sq) : joinR s t = joinE s t := by
  unfold joinR joinE
  by_cases hw : wrongQ s t = true
  · rw [if_pos hw, if_pos hw]
  · rw [if_neg hw, if_neg hw]
    by_cases ho : orQ s.a s.b t.a ≠ 0 ∨ orQ s.a s.b t.b ≠ 0
    · rw [if_pos ho, if_pos ho]
    · rw [if_neg ho, if_neg ho]
      have h1 : (s.b.sub s.a).cross (t.a.sub s.a) = 0 := cmpQ_eq.1 (Classical.not_not.1 fun h => ho (.inl h))
      have h2 : (s.b.sub s.a).cross (t.b.sub s.a) = 0 := cmpQ_eq.1 (Classical.not_not.1 fun h => ho (.inr h))
      have hd : (s.b.sub s.a).cross (t.b.sub t.a) = 0 := by
        simp only [Pq.sub, Pq.cross] at h1 h2 ⊢; grind
      have hm : (meetQ s t).isSome = true ↔ ¬ (cmpP (ordS s).b (ordS t).a < 0 ∨ cmpP (ordS t).b (ordS s).a < 0) := by
        unfold meetQ
        rw [if_neg (fun h => h (cmpQ_eq.2 hd)), if_neg (fun h => h (cmpQ_eq.2 h1))]
        have l1 := ordS_le s
        have l2 := ordS_le t
        have key : ¬ cmpP (grP (ordS s).a (ordS t).a) (lsP (ordS s).b (ordS t).b) > 0 ↔ leP (ordS t).a (ordS s).b ∧ leP (ordS s).a (ordS t).b := by
          have : ¬ cmpP (grP (ordS s).a (ordS t).a) (lsP (ordS s).b (ordS t).b) > 0 ↔ leP (grP (ordS s).a (ordS t).a) (lsP (ordS s).b (ordS t).b) := by
            rw [← leP_cmp]; omega
          rw [this, gr_le, ls_le, ls_le]
          exact ⟨fun h => ⟨h.2.1, h.1.2⟩, fun h => ⟨⟨l1, h.2⟩, ⟨h.1, l2⟩⟩⟩
        rw [cmpP_neg, cmpP_neg, not_or, Classical.not_not, Classical.not_not, ← key]
        split
        · rename_i h; simp [h]
        · rename_i h; simp [h]
      by_cases c : cmpP (ordS s).b (ordS t).a < 0 ∨ cmpP (ordS t).b (ordS s).a < 0
      · rw [if_pos c, if_neg (fun h => hm.1 h c)]
      · rw [if_neg c, if_pos (hm.2 c)]
end Go.Proofs.YtfdealobplcboaaGreat.Sx
