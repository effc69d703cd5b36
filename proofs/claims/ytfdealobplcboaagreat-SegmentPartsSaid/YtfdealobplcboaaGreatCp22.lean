/- Part 22 of what the statement needs: an executor of Go texts, arithmetic, and contracts of the functions that are called. -/
import Derived.Test.YtfdealobplcboaaGreatCp14
import Derived.Test.YtfdealobplcboaaGreatCp15
import Derived.Test.YtfdealobplcboaaGreatCp16
import Derived.Test.YtfdealobplcboaaGreatCp19
import Derived.Test.YtfdealobplcboaaGreatCp21
set_option linter.unusedVariables false
set_option linter.unusedSimpArgs false
set_option maxRecDepth 100000
set_option maxHeartbeats 8000000
namespace Go.Proofs.YtfdealobplcboaaGreat.Sx
theorem xadd_q {a b : R} {x y : Rat} {k l : Nat} (ha : Is k a x) (hb : Is l b y) (h : k + l <= 134217728) : Con Tryz.prog 171 [.v a.v, .v b.v] (.v (cr (x + y)).v) := by
 have e : x + y = mkRat (a.nm * b.dn + b.nm * a.dn) (a.dn * b.dn) := by
  have := a.dn_pos; have := b.dn_pos
  rw [<- ha.q, <- hb.q]; exact Rat.mkRat_add_mkRat _ _ (by omega) (by omega)
 rw [e, <- rI_cr _ _ (Nat.mul_pos a.dn_pos b.dn_pos)]
 exact radd_raw a.neg b.neg a.num a.den b.num b.den ha.n ha.d hb.n hb.d ha.b.pos hb.b.pos h
theorem xmul_q {a b : R} {x y : Rat} {k l : Nat} (ha : Is k a x) (hb : Is l b y) (h : k + l <= 134217728) : Con Tryz.prog 169 [.v a.v, .v b.v] (.v (cr (x * y)).v) := by
 have e : x * y = mkRat (a.nm * b.nm) (a.dn * b.dn) := by
  have := a.dn_pos; have := b.dn_pos
  rw [<- ha.q, <- hb.q]; exact Rat.mkRat_mul_mkRat _ _ _ _
 rw [e, <- rI_cr _ _ (Nat.mul_pos a.dn_pos b.dn_pos)]
 exact rmulq_raw a.neg b.neg a.num a.den b.num b.den ha.n ha.d hb.n hb.d ha.b.pos hb.b.pos h
theorem xcmp_q {a b : R} {x y : Rat} {k l : Nat} (ha : Is k a x) (hb : Is l b y) (h : k + l <= 134217728) : Con Tryz.prog 146 [.v a.v, .v b.v] (.v (.int .i64 (cmpQ x y))) := by
 have e : cmpQ x y = cmpI (a.nm * b.dn) (b.nm * a.dn) := by
  rw [<- ha.q, <- hb.q]; exact (cmpI_q a.dn_pos b.dn_pos).symm
 rw [e]
 exact rcmpq_raw a.neg b.neg a.num a.den b.num b.den ha.n ha.d hb.n hb.d ha.b.pos hb.b.pos h
theorem xadd_c {P' : Program} {E : Env} (hP : P' = Tryz.prog) (hE : E = Env.std) {hh : List Blk} {K : AV -> List Blk -> Prop} {an0 : Bool} {au0 ad0 : ByteArray} {x : Rat} {k : Nat} {bn0 : Bool} {bu0 bd0 : ByteArray} {y : Rat} {l : Nat} (ha : Is k ⟨an0, au0, ad0⟩ x) (hb : Is l ⟨bn0, bu0, bd0⟩ y) (h : k + l <= 134217728) (hk : ∀ r0 : R, r0 = cr (x + y) -> Is (k + l + 1) r0 (x + y) -> K (.v (r0.v)) hh) : CallTo P' hh 171 [.v (.agg #[.bool an0, .string au0, .string ad0]), .v (.agg #[.bool bn0, .string bu0, .string bd0])] K := by
 refine CallTo.con hP hE (xadd_q ha hb h) ⟨rfl, rfl, trivial⟩ ?_
 have := hk _ rfl (ha.b.add hb.b).is 
 simp only [outV, outW, List.append_nil]
 exact this
theorem xmul_c {P' : Program} {E : Env} (hP : P' = Tryz.prog) (hE : E = Env.std) {hh : List Blk} {K : AV -> List Blk -> Prop} {an0 : Bool} {au0 ad0 : ByteArray} {x : Rat} {k : Nat} {bn0 : Bool} {bu0 bd0 : ByteArray} {y : Rat} {l : Nat} (ha : Is k ⟨an0, au0, ad0⟩ x) (hb : Is l ⟨bn0, bu0, bd0⟩ y) (h : k + l <= 134217728) (hk : ∀ r0 : R, r0 = cr (x * y) -> Is (k + l) r0 (x * y) -> K (.v (r0.v)) hh) : CallTo P' hh 169 [.v (.agg #[.bool an0, .string au0, .string ad0]), .v (.agg #[.bool bn0, .string bu0, .string bd0])] K := by
 refine CallTo.con hP hE (xmul_q ha hb h) ⟨rfl, rfl, trivial⟩ ?_
 have := hk _ rfl (ha.b.mul hb.b).is 
 simp only [outV, outW, List.append_nil]
 exact this
theorem xcmp_c {P' : Program} {E : Env} (hP : P' = Tryz.prog) (hE : E = Env.std) {hh : List Blk} {K : AV -> List Blk -> Prop} {an0 : Bool} {au0 ad0 : ByteArray} {x : Rat} {k : Nat} {bn0 : Bool} {bu0 bd0 : ByteArray} {y : Rat} {l : Nat} (ha : Is k ⟨an0, au0, ad0⟩ x) (hb : Is l ⟨bn0, bu0, bd0⟩ y) (h : k + l <= 134217728) (hk : ∀ r0 : Int, r0 = cmpQ x y -> K (.v (.int .i64 r0)) hh) : CallTo P' hh 146 [.v (.agg #[.bool an0, .string au0, .string ad0]), .v (.agg #[.bool bn0, .string bu0, .string bd0])] K := by
 refine CallTo.con hP hE (xcmp_q ha hb h) ⟨rfl, rfl, trivial⟩ ?_
 have := hk _ rfl
 simp only [outV, outW, List.append_nil]
 exact this
theorem xcmp_p {a : R} {x : Rat} {k : Nat} {b : R} {y : Rat} {l : Nat} (ha : Is k a x) (hb : Is l b y) (h : k + l <= 134217728) : ∃ (r0 : Int), r0 = cmpQ x y /\ Con Tryz.prog 146 [.v a.v, .v b.v] (.v (.int .i64 r0)) := ⟨_, rfl, xcmp_q ha hb h⟩
theorem xsub_q {a b : R} {x y : Rat} {k l : Nat} (ha : Is k a x) (hb : Is l b y) (h : k + l <= 134217728) : Con Tryz.prog 145 [.v a.v, .v b.v] (.v (cr (x - y)).v) := by
 obtain ⟨n1, u1, d1⟩ := a
 obtain ⟨n2, u2, d2⟩ := b
 have hc := xadd_q ha hb.not h
 rw [<- Rat.sub_eq_add_neg] at hc
 obtain ⟨r, hr⟩ : ∃ r, r = cr (x - y) := ⟨_, rfl⟩
 rw [<- hr] at hc ⊢
 refine Con.of ttOk mixed Tryz.func145 {} .nil 0 (by kernel_rfl) (fun P' E hP hE => ?_)
 clear hr
 cbv
 refine CallTo.w hP hE hc (by subst hE; exact ⟨rfl, rfl, trivial⟩) ?_
 cbv
theorem xsub_c {P' : Program} {E : Env} (hP : P' = Tryz.prog) (hE : E = Env.std) {hh : List Blk} {K : AV -> List Blk -> Prop} {an0 : Bool} {au0 ad0 : ByteArray} {x : Rat} {k : Nat} {bn0 : Bool} {bu0 bd0 : ByteArray} {y : Rat} {l : Nat} (ha : Is k ⟨an0, au0, ad0⟩ x) (hb : Is l ⟨bn0, bu0, bd0⟩ y) (h : k + l <= 134217728) (hk : ∀ r0 : R, r0 = cr (x - y) -> Is (k + l + 1) r0 (x - y) -> K (.v (r0.v)) hh) : CallTo P' hh 145 [.v (.agg #[.bool an0, .string au0, .string ad0]), .v (.agg #[.bool bn0, .string bu0, .string bd0])] K := by
 refine CallTo.con hP hE (xsub_q ha hb h) ⟨rfl, rfl, trivial⟩ ?_
 have := hk _ rfl (ha.b.sub hb.b).is 
 simp only [outV, outW, List.append_nil]
 exact this
theorem xsub_p {a : R} {x : Rat} {k : Nat} {b : R} {y : Rat} {l : Nat} (ha : Is k a x) (hb : Is l b y) (h : k + l <= 134217728) : ∃ (r0 : R), r0 = cr (x - y) /\ Is (k + l + 1) r0 (x - y) /\ Con Tryz.prog 145 [.v a.v, .v b.v] (.v (r0.v)) := ⟨_, rfl, (ha.b.sub hb.b).is, xsub_q ha hb h⟩
theorem xnorm_q {a : R} {x : Rat} {k : Nat} (ha : Is k a x) (h : k <= 134217728) : Con Tryz.prog 196 [.v a.v] (.v (cr x).v) := by
 have e : (cr x).v = rI a.nm a.dn := by rw [rI_cr _ _ a.dn_pos]; show _ = (cr a.q).v; rw [ha.q]
 have hn := ha.n
 have hd := ha.d
 have hk := ha.b.pos
 have dp := a.dn_pos
 rw [e]
 obtain ⟨neg, u, v⟩ := a
 have hn : u.size <= k := hn
 have hd : v.size <= k := hd
 clear ha e
 obtain ⟨rs, rn, rd, hres⟩ : ∃ a b c, rI (R.nm ⟨neg, u, v⟩) (R.dn ⟨neg, u, v⟩) = .agg #[.bool a, .string b, .string c] := by
  unfold rI
  split
  ·exact ⟨_, _, _, rfl⟩
  ·exact ⟨_, _, _, rfl⟩
 rw [hres]
 by_cases hs : u.size <= 3 /\ v.size <= 3
 ·have s1 := rsm_yes neg u v hs.1 hs.2
  have d1 := small_dd hs.2
  have b1 : (zval neg u).natAbs < 16777216 := by rw [zval_abs]; exact small_bd hs.1
  rw [d1.2.2] at s1
  have pk := rpack_con (zval neg u) (bv (dden v)) d1.1 (by omega) (by omega)
  have pk : Con Tryz.prog 209 [.v (.int .i64 (zval neg u)), .v (.int .i64 (bv (dden v) : Nat))] (.v (rI (R.nm ⟨neg, u, v⟩) (R.dn ⟨neg, u, v⟩))) := pk
  rw [hres] at pk
  obtain ⟨n, hn1⟩ : ∃ n, n = zval neg u := ⟨_, rfl⟩
  obtain ⟨d, hd1⟩ : ∃ n : Int, n = (bv (dden v) : Nat) := ⟨_, rfl⟩
  rw [<- hn1, <- hd1] at s1 pk
  clear hres hn1 hd1 d1 b1 dp
  unfold rR at s1
  refine Con.of ttOk mixed Tryz.func196 {} .nil 0 (by kernel_rfl) (fun P' E hP hE => ?_)
  cbv
  refine CallTo.w hP hE s1 ⟨rfl, trivial⟩ ?_
  cbv
  refine fork.ya rfl ?_
  cbv
  refine CallTo.w hP hE pk ⟨rfl, rfl, trivial⟩ ?_
  cbv
 ·have s1 := rsm_no neg u v (by omega)
  obtain ⟨sa, xa, ya, za, wa, la, ma, pa⟩ := rparts_zp neg u v hn hd hk h
  have b4 : bv ya = bv (dden v) := by rw [wa.bv]; rfl
  have m5 := rreduce_con sa xa ya (by omega) (by omega) (by rw [b4]; exact dp)
  rw [za.zval, b4] at m5
  have m5 : Con Tryz.prog 197 [.v (zR sa xa), .v (zR false ya)] (.v (rI (R.nm ⟨neg, u, v⟩) (R.dn ⟨neg, u, v⟩))) := m5
  rw [hres] at m5
  clear hres za wa b4 dp
  unfold rR at s1
  unfold zR at m5
  refine Con.of ttOk mixed Tryz.func196 {} .nil 0 (by kernel_rfl) (fun P' E hP hE => ?_)
  cbv
  refine CallTo.w hP hE s1 ⟨rfl, trivial⟩ ?_
  cbv
  refine fork.na rfl ?_
  cbv
  refine CallTo.w hP hE pa ⟨rfl, trivial⟩ ?_
  cbv
  refine CallTo.w hP hE m5 ⟨rfl, rfl, trivial⟩ ?_
  cbv
theorem xneg_q {a : R} {x : Rat} {k : Nat} (ha : Is k a x) (h : k <= 134217728) : Con Tryz.prog 148 [.v a.v] (.v (cr (-x)).v) := by
 obtain ⟨n1, u1, d1⟩ := a
 have c2 := xnorm_q ha.not h
 obtain ⟨r, hr⟩ : ∃ r, r = cr (-x) := ⟨_, rfl⟩
 rw [<- hr] at c2 ⊢
 refine Con.of ttOk mixed Tryz.func148 {} .nil 0 (by kernel_rfl) (fun P' E hP hE => ?_)
 clear hr
 cbv
 refine CallTo.w hP hE c2 (by subst hE; exact ⟨rfl, trivial⟩) ?_
 cbv
theorem xneg_p {a : R} {x : Rat} {k : Nat} (ha : Is k a x) (h : k <= 134217728) : ∃ (r0 : R), r0 = cr (-x) /\ Is (k) r0 (-x) /\ Con Tryz.prog 148 [.v a.v] (.v (r0.v)) := ⟨_, rfl, (ha.b.neg).is, xneg_q ha h⟩
theorem xsign_q {a : R} {x : Rat} {k : Nat} (ha : Is k a x) (h : k + 1 <= 134217728) : Con Tryz.prog 102 [.v a.v] (.v (.int .i64 (cmpQ x 0))) := by
 obtain ⟨an0, au0, ad0⟩ := a
 obtain ⟨r0, e0⟩ : ∃ r, r = cmpQ x 0 := ⟨_, rfl⟩
 rw [<- e0]
 have hz := Is.zero
 refine Con.of ttOk mixed Tryz.func102 {} .nil 0 (by kernel_rfl) (fun P' E hP hE => ?_)
 cbv
 refine xcmp_c hP hE (by assumption) (by assumption) (by omega) ?_
 intro m em
 cbv
 rw [e0, em]
theorem xsign_c {P' : Program} {E : Env} (hP : P' = Tryz.prog) (hE : E = Env.std) {hh : List Blk} {K : AV -> List Blk -> Prop} {an0 : Bool} {au0 ad0 : ByteArray} {x : Rat} {k : Nat} (ha : Is k ⟨an0, au0, ad0⟩ x) (h : k + 1 <= 134217728) (hk : ∀ r0 : Int, r0 = cmpQ x 0 -> K (.v (.int .i64 r0)) hh) : CallTo P' hh 102 [.v (.agg #[.bool an0, .string au0, .string ad0])] K := by
 refine CallTo.con hP hE (xsign_q ha h) ⟨rfl, trivial⟩ ?_
 have := hk _ rfl
 simp only [outV, outW, List.append_nil]
 exact this
theorem xsign_p {a : R} {x : Rat} {k : Nat} (ha : Is k a x) (h : k + 1 <= 134217728) : ∃ (r0 : Int), r0 = cmpQ x 0 /\ Con Tryz.prog 102 [.v a.v] (.v (.int .i64 r0)) := ⟨_, rfl, xsign_q ha h⟩
theorem rat_inv {n : Int} {d : Nat} (hn : n ≠ 0) (hd : 0 < d) : mkRat (if n < 0 then -(d : Int) else (d : Int)) n.natAbs = (mkRat n d)⁻¹ := by
 have hd' : (d : Rat) ≠ 0 := by
  intro h
  have := Rat.natCast_pos.2 hd
  rw [h] at this
  exact absurd this (by decide)
 have hn' : (n : Rat) ≠ 0 := by
  intro h
  exact hn (Rat.intCast_inj.1 (h.trans Rat.intCast_zero.symm))
 rw [Rat.mkRat_eq_div, Rat.mkRat_eq_div]
 have ha : ((n.natAbs : Nat) : Rat) = if n < 0 then -(n : Rat) else (n : Rat) := by
  rw [<- Rat.intCast_natCast]
  split
  ·rw [<- Rat.intCast_neg, show ((n.natAbs : Nat) : Int) = -n by omega]
  ·rw [show ((n.natAbs : Nat) : Int) = n by omega]
 rw [ha]
 have key : (d : Rat) / (n : Rat) = ((n : Rat) / (d : Rat))⁻¹ := by
  have h1 : (d : Rat) / (n : Rat) * (n : Rat) = d := Rat.div_mul_cancel hn'
  have h2 : (n : Rat) / (d : Rat) * (d : Rat) = n := Rat.div_mul_cancel hd'
  have h3 : (n : Rat) / (d : Rat) ≠ 0 := by
   intro h
   rw [h] at h2
   exact hn' (by rw [<- h2]; exact Rat.zero_mul _)
  have h4 : (d : Rat) / (n : Rat) * ((n : Rat) / (d : Rat)) = 1 := by
   have : (d : Rat) / (n : Rat) * ((n : Rat) / (d : Rat)) * d = 1 * d := by
    rw [Rat.mul_assoc, h2, h1, Rat.one_mul]
   rw [<- Rat.mul_div_cancel (a := (d : Rat) / (n : Rat) * ((n : Rat) / (d : Rat))) hd', this, Rat.one_mul]
   rw [Rat.div_def]; exact Rat.mul_inv_cancel _ hd'
  rw [<- Rat.mul_div_cancel (a := (d : Rat) / (n : Rat)) h3, h4, Rat.div_def, Rat.one_mul]
 rw [<- key]
 split
 ·rw [Rat.intCast_neg, Rat.intCast_natCast]
  have e1 : (-(d : Rat)) / (-(n : Rat)) * (-(n : Rat)) = -(d : Rat) := Rat.div_mul_cancel (by grind)
  have e2 : (d : Rat) / (n : Rat) * (n : Rat) = d := Rat.div_mul_cancel hn'
  have e3 : ((-(d : Rat)) / (-(n : Rat)) - (d : Rat) / (n : Rat)) * (n : Rat) = 0 := by grind
  rcases Rat.mul_eq_zero.1 e3 with h | h
  ·grind
  ·exact absurd h hn'
 ·rw [Rat.intCast_natCast]
theorem xquo_q {a b : R} {x y : Rat} {k l : Nat} (ha : Is k a x) (hb : Is l b y) (h : k + l <= 134217728) : Con Tryz.prog 107 [.v a.v, .v b.v] (.v (.tuple #[(cr (x / y)).v, .int .i64 (dvE y)])) := by
 have hlp := hb.b.pos
 obtain ⟨n1, u1, d1⟩ := a
 obtain ⟨n2, u2, d2⟩ := b
 have hq := hb.q
 obtain ⟨sb, xb, yb, zb, wb, lb, mb, pb⟩ := rparts_zp n2 u2 d2 hb.n hb.d hlp (by omega)
 have hy : mkRat (zval n2 u2) (bv (dden d2)) = y := hq
 have dp : 0 < bv (dden d2) := by rw [dden_bv]; omega
 have c0 : xb = ⟨⟨[]⟩⟩ -> y = 0 := by
  intro e
  rw [<- hy, zb.nil.1 e, Rat.zero_mkRat]
 have c1 : ¬ xb = ⟨⟨[]⟩⟩ -> y ≠ 0 /\ Is l ⟨sb, yb, xb⟩ y⁻¹ := by
  intro e
  have hz : zval n2 u2 ≠ 0 := fun e' => e (zb.nil.2 e')
  refine ⟨?_, mb, lb, ?_, hb.b.inv⟩
  ·intro e'
   rw [e'] at hy
   exact hz ((Rat.mkRat_eq_zero (by omega)).1 hy)
  ·rw [<- hy, <- rat_inv hz dp]
   show mkRat (zval sb yb) (bv (dden xb)) = _
   have e1 : bv (dden xb) = (zval n2 u2).natAbs := by rw [dden_bv, zb.bv]; omega
   have e2 : zval sb yb = if zval n2 u2 < 0 then -(bv (dden d2) : Int) else (bv (dden d2) : Int) := by
    show (if sb = true then -((bv yb : Nat) : Int) else ((bv yb : Nat) : Int)) = _
    rw [wb.bv, zb.s]
    by_cases hc : zval n2 u2 < 0
    ·simp [hc]
    ·simp [hc]
   rw [e1, e2]
 have hsq : Env.std.sq xb ⟨⟨[]⟩⟩ = decide (xb = ⟨⟨[]⟩⟩) := sq_iff
 obtain ⟨r, hr⟩ : ∃ r, r = cr (x / y) := ⟨_, rfl⟩
 obtain ⟨e, he⟩ : ∃ r, r = dvE y := ⟨_, rfl⟩
 rw [<- hr, <- he]
 by_cases hx : xb = ⟨⟨[]⟩⟩
 ·have hy0 := c0 hx
  have hr0 : r = ⟨false, ⟨⟨[]⟩⟩, ⟨⟨[]⟩⟩⟩ := by rw [hr, hy0, Rat.div_def, Rat.inv_zero, Rat.mul_zero, cr_zero]
  have he0 : e = 10 := by rw [he, hy0]; rfl
  subst hr0 he0
  rw [hx] at pb
  have hsq1 : Env.std.sq ⟨⟨[]⟩⟩ ⟨⟨[]⟩⟩ = true := s_sqt _ rfl
  clear hsq hr he c0 c1 hy hq
  refine Con.of ttOk mixed Tryz.func107 {} .nil 0 (by kernel_rfl) (fun P' E hP hE => ?_)
  cbv
  refine CallTo.w hP hE pb ⟨rfl, trivial⟩ ?_
  cbv
  refine fork.ya (by subst hE; exact hsq1) ?_
  cbv
 ·have hc := c1 hx
  have hm := xmul_q ha hc.2 h
  rw [<- Rat.div_def, <- hr] at hm
  have he0 : e = 0 := by rw [he]; unfold dvE; rw [if_neg hc.1]
  subst he0
  have hsq1 := s_sqf xb hx
  clear hsq hr he c0 c1 hy hq hc
  refine Con.of ttOk mixed Tryz.func107 {} .nil 0 (by kernel_rfl) (fun P' E hP hE => ?_)
  cbv
  refine CallTo.w hP hE pb ⟨rfl, trivial⟩ ?_
  cbv
  refine fork.na (by subst hE; exact hsq1) ?_
  cbv
  refine CallTo.w hP hE hm ⟨rfl, rfl, trivial⟩ ?_
  cbv
theorem xquo_p {a : R} {x : Rat} {k : Nat} {b : R} {y : Rat} {l : Nat} (ha : Is k a x) (hb : Is l b y) (h : k + l <= 134217728) : ∃ (r0 : R) (r1 : Int), r0 = cr (x / y) /\ Is (k + l) r0 (x / y) /\ r1 = dvE y /\ Con Tryz.prog 107 [.v a.v, .v b.v] (.v (.tuple #[r0.v, .int .i64 r1])) := ⟨_, _, rfl, (ha.b.div hb.b).is, rfl, xquo_q ha hb h⟩
theorem xof_q (n : Int) (h0 : -9223372036854775808 <= n) (h1 : n < 9223372036854775808) : Con Tryz.prog 149 [.v (.int .i64 n)] (.v (cr (n : Rat)).v) := by
 have c1 := rof_con n h0 h1
 have c2 := rof_con 1 (by decide) (by decide)
 obtain ⟨s, m, z⟩ := Zp.ex n
 have z1 := Zp.nat 1
 have h1 : zV 1 = .agg #[.bool false, .string (mg 1)] := (Zp.nat 1).v
 rw [z.v] at c1
 rw [h1] at c2
 have hs : m.size <= 8 := by
  rw [z.m]
  exact mgz_size h0 (by assumption)
 have c3 := rreduce_con s m (mg 1) (by omega) (by rw [mg_one1]; decide) (by rw [bv_mg]; decide)
 rw [z.zval, bv_mg, rI_cr n 1 (by decide), int_q] at c3
 obtain ⟨r, hr⟩ : ∃ r, r = cr (n : Rat) := ⟨_, rfl⟩
 obtain ⟨x1, hx1⟩ : ∃ r, r = mg 1 := ⟨_, rfl⟩
 rw [<- hr, <- hx1] at c3
 rw [<- hx1] at c2
 rw [<- hr]
 clear hr hx1 z z1 hs h1
 unfold zR at c3
 refine Con.of ttOk mixed Tryz.func149 {} .nil 0 (by kernel_rfl) (fun P' E hP hE => ?_)
 cbv
 refine CallTo.w hP hE c1 ⟨rfl, trivial⟩ ?_
 cbv
 refine CallTo.w hP hE c2 ⟨rfl, trivial⟩ ?_
 cbv
 refine CallTo.w hP hE c3 ⟨rfl, rfl, trivial⟩ ?_
 cbv
theorem xofc_c {P' : Program} {E : Env} (hP : P' = Tryz.prog) (hE : E = Env.std) {hh : List Blk} {K : AV -> List Blk -> Prop} {a : AV} {ab : Bool} {n : Int} (ha : AV.val a = some (ab, .int .i64 n)) (h0 : -9223372036854775808 <= n /\ n < 9223372036854775808) (hk : ∀ r0 : R, r0 = cr (n : Rat) -> Is 8 r0 (n : Rat) -> K (.v (r0.v)) hh) : CallTo P' hh 149 [a] K := by
 refine CallTo.con hP hE (xof_q n h0.1 h0.2) ⟨fit_val ha, trivial⟩ ?_
 have := hk _ rfl (Bd.int (by have : (256 : Nat) ^ 8 = 18446744073709551616 := (by decide); omega) (by decide)).is
 simp only [outV, outW, List.append_nil]
 exact this
end Go.Proofs.YtfdealobplcboaaGreat.Sx

set_option linter.unusedVariables false
set_option linter.unusedSimpArgs false
set_option maxRecDepth 100000
set_option maxHeartbeats 8000000
namespace Go.Proofs.YtfdealobplcboaaGreat.Sx
theorem yadd_q {a : Pt} {A : Pq} {k : Nat} {b : Pt} {B : Pq} {l : Nat} (ha : IsP k a A) (hb : IsP l b B) (h : k + l <= 134217728) : Con Tryz.prog 108 [.v a.v, .v b.v] (.v ((crP (A.add B)).v)) := by
 obtain ⟨⟨an0, au0, ad0⟩, ⟨an1, au1, ad1⟩⟩ := a
 have hax : Is k ⟨an0, au0, ad0⟩ A.x := ha.x
 have hay : Is k ⟨an1, au1, ad1⟩ A.y := ha.y
 obtain ⟨⟨bn0, bu0, bd0⟩, ⟨bn1, bu1, bd1⟩⟩ := b
 have hbx : Is l ⟨bn0, bu0, bd0⟩ B.x := hb.x
 have hby : Is l ⟨bn1, bu1, bd1⟩ B.y := hb.y
 obtain ⟨r0, e0⟩ : ∃ r, r = crP (A.add B) := ⟨_, rfl⟩
 rw [<- e0]
 refine Con.of ttOk mixed Tryz.func108 { ord := [(1, [0, 1, 2, 3, 5, 6, 7, 8, 4, 9, 10, 11])] } .nil 0 (by kernel_rfl) (fun P' E hP hE => ?_)
 cbv
 refine xadd_c hP hE (by assumption) (by assumption) (by omega) ?_
 intro c1 ec1 hc1
 cbv
 refine xadd_c hP hE (by assumption) (by assumption) (by omega) ?_
 intro c2 ec2 hc2
 cbv
 rw [e0, ec1, ec2]; rfl
theorem ysub_q {a : Pt} {A : Pq} {k : Nat} {b : Pt} {B : Pq} {l : Nat} (ha : IsP k a A) (hb : IsP l b B) (h : k + l <= 134217728) : Con Tryz.prog 100 [.v a.v, .v b.v] (.v ((crP (A.sub B)).v)) := by
 obtain ⟨⟨an0, au0, ad0⟩, ⟨an1, au1, ad1⟩⟩ := a
 have hax : Is k ⟨an0, au0, ad0⟩ A.x := ha.x
 have hay : Is k ⟨an1, au1, ad1⟩ A.y := ha.y
 obtain ⟨⟨bn0, bu0, bd0⟩, ⟨bn1, bu1, bd1⟩⟩ := b
 have hbx : Is l ⟨bn0, bu0, bd0⟩ B.x := hb.x
 have hby : Is l ⟨bn1, bu1, bd1⟩ B.y := hb.y
 obtain ⟨r0, e0⟩ : ∃ r, r = crP (A.sub B) := ⟨_, rfl⟩
 rw [<- e0]
 refine Con.of ttOk mixed Tryz.func100 { ord := [(1, [0, 1, 2, 3, 5, 6, 7, 8, 4, 9, 10, 11])] } .nil 0 (by kernel_rfl) (fun P' E hP hE => ?_)
 cbv
 refine xsub_c hP hE (by assumption) (by assumption) (by omega) ?_
 intro c1 ec1 hc1
 cbv
 refine xsub_c hP hE (by assumption) (by assumption) (by omega) ?_
 intro c2 ec2 hc2
 cbv
 rw [e0, ec1, ec2]; rfl
theorem yscale_q {a : Pt} {A : Pq} {k : Nat} {b : R} {x : Rat} {l : Nat} (ha : IsP k a A) (hb : Is l b x) (h : k + l <= 134217728) : Con Tryz.prog 109 [.v a.v, .v b.v] (.v ((crP (A.scale x)).v)) := by
 obtain ⟨⟨an0, au0, ad0⟩, ⟨an1, au1, ad1⟩⟩ := a
 have hax : Is k ⟨an0, au0, ad0⟩ A.x := ha.x
 have hay : Is k ⟨an1, au1, ad1⟩ A.y := ha.y
 obtain ⟨bn0, bu0, bd0⟩ := b
 obtain ⟨r0, e0⟩ : ∃ r, r = crP (A.scale x) := ⟨_, rfl⟩
 rw [<- e0]
 refine Con.of ttOk mixed Tryz.func109 { ord := [(1, [0, 1, 2, 4, 5, 6, 3, 7, 8, 9])] } .nil 0 (by kernel_rfl) (fun P' E hP hE => ?_)
 cbv
 refine xmul_c hP hE (by assumption) (by assumption) (by omega) ?_
 intro c1 ec1 hc1
 cbv
 refine xmul_c hP hE (by assumption) (by assumption) (by omega) ?_
 intro c2 ec2 hc2
 cbv
 rw [e0, ec1, ec2]; rfl
theorem ydot_q {a : Pt} {A : Pq} {k : Nat} {b : Pt} {B : Pq} {l : Nat} (ha : IsP k a A) (hb : IsP l b B) (h : 2 * (k + l) <= 134217728) : Con Tryz.prog 151 [.v a.v, .v b.v] (.v ((cr (A.dot B)).v)) := by
 obtain ⟨⟨an0, au0, ad0⟩, ⟨an1, au1, ad1⟩⟩ := a
 have hax : Is k ⟨an0, au0, ad0⟩ A.x := ha.x
 have hay : Is k ⟨an1, au1, ad1⟩ A.y := ha.y
 obtain ⟨⟨bn0, bu0, bd0⟩, ⟨bn1, bu1, bd1⟩⟩ := b
 have hbx : Is l ⟨bn0, bu0, bd0⟩ B.x := hb.x
 have hby : Is l ⟨bn1, bu1, bd1⟩ B.y := hb.y
 obtain ⟨r0, e0⟩ : ∃ r, r = cr (A.dot B) := ⟨_, rfl⟩
 rw [<- e0]
 refine Con.of ttOk mixed Tryz.func151 { ord := [(1, [0, 1, 2, 3, 5, 6, 7, 8, 4, 9, 10, 11])] } .nil 0 (by kernel_rfl) (fun P' E hP hE => ?_)
 cbv
 refine xmul_c hP hE (by assumption) (by assumption) (by omega) ?_
 intro c1 ec1 hc1
 cbv
 refine xmul_c hP hE (by assumption) (by assumption) (by omega) ?_
 intro c2 ec2 hc2
 cbv
 refine xadd_c hP hE (by assumption) (by assumption) (by omega) ?_
 intro c3 ec3 hc3
 cbv
 rw [e0, ec3]; rfl
theorem ycross_q {a : Pt} {A : Pq} {k : Nat} {b : Pt} {B : Pq} {l : Nat} (ha : IsP k a A) (hb : IsP l b B) (h : 2 * (k + l) <= 134217728) : Con Tryz.prog 101 [.v a.v, .v b.v] (.v ((cr (A.cross B)).v)) := by
 obtain ⟨⟨an0, au0, ad0⟩, ⟨an1, au1, ad1⟩⟩ := a
 have hax : Is k ⟨an0, au0, ad0⟩ A.x := ha.x
 have hay : Is k ⟨an1, au1, ad1⟩ A.y := ha.y
 obtain ⟨⟨bn0, bu0, bd0⟩, ⟨bn1, bu1, bd1⟩⟩ := b
 have hbx : Is l ⟨bn0, bu0, bd0⟩ B.x := hb.x
 have hby : Is l ⟨bn1, bu1, bd1⟩ B.y := hb.y
 obtain ⟨r0, e0⟩ : ∃ r, r = cr (A.cross B) := ⟨_, rfl⟩
 rw [<- e0]
 refine Con.of ttOk mixed Tryz.func101 { ord := [(1, [0, 1, 2, 3, 5, 6, 7, 8, 4, 9, 10, 11])] } .nil 0 (by kernel_rfl) (fun P' E hP hE => ?_)
 cbv
 refine xmul_c hP hE (by assumption) (by assumption) (by omega) ?_
 intro c1 ec1 hc1
 cbv
 refine xmul_c hP hE (by assumption) (by assumption) (by omega) ?_
 intro c2 ec2 hc2
 cbv
 refine xsub_c hP hE (by assumption) (by assumption) (by omega) ?_
 intro c3 ec3 hc3
 cbv
 rw [e0, ec3]; rfl
theorem yadd_c {P' : Program} {E : Env} (hP : P' = Tryz.prog) (hE : E = Env.std) {hh : List Blk} {K : AV -> List Blk -> Prop} {an0 an1 : Bool} {au0 ad0 au1 ad1 : ByteArray} {A : Pq} {k : Nat} {bn0 bn1 : Bool} {bu0 bd0 bu1 bd1 : ByteArray} {B : Pq} {l : Nat} (ha : IsP k ⟨⟨an0, au0, ad0⟩, ⟨an1, au1, ad1⟩⟩ A) (hb : IsP l ⟨⟨bn0, bu0, bd0⟩, ⟨bn1, bu1, bd1⟩⟩ B) (h : k + l <= 134217728) (hk : ∀ r0 : Pt, r0 = crP (A.add B) -> IsP (k + l + 1) r0 (A.add B) -> Is (k + l + 1) r0.x (A.add B).x -> Is (k + l + 1) r0.y (A.add B).y -> K (.v (r0.v)) hh) : CallTo P' hh 108 [.v (.agg #[.bool an0, .string au0, .string ad0, .bool an1, .string au1, .string ad1]), .v (.agg #[.bool bn0, .string bu0, .string bd0, .bool bn1, .string bu1, .string bd1])] K := by
 refine CallTo.con hP hE (yadd_q ha hb h) ⟨rfl, rfl, trivial⟩ ?_
 have := hk _ rfl (ha.b.add hb.b).is (ha.b.add hb.b).is.x (ha.b.add hb.b).is.y
 simp only [outV, outW, List.append_nil]
 exact this
theorem ysub_c {P' : Program} {E : Env} (hP : P' = Tryz.prog) (hE : E = Env.std) {hh : List Blk} {K : AV -> List Blk -> Prop} {an0 an1 : Bool} {au0 ad0 au1 ad1 : ByteArray} {A : Pq} {k : Nat} {bn0 bn1 : Bool} {bu0 bd0 bu1 bd1 : ByteArray} {B : Pq} {l : Nat} (ha : IsP k ⟨⟨an0, au0, ad0⟩, ⟨an1, au1, ad1⟩⟩ A) (hb : IsP l ⟨⟨bn0, bu0, bd0⟩, ⟨bn1, bu1, bd1⟩⟩ B) (h : k + l <= 134217728) (hk : ∀ r0 : Pt, r0 = crP (A.sub B) -> IsP (k + l + 1) r0 (A.sub B) -> Is (k + l + 1) r0.x (A.sub B).x -> Is (k + l + 1) r0.y (A.sub B).y -> K (.v (r0.v)) hh) : CallTo P' hh 100 [.v (.agg #[.bool an0, .string au0, .string ad0, .bool an1, .string au1, .string ad1]), .v (.agg #[.bool bn0, .string bu0, .string bd0, .bool bn1, .string bu1, .string bd1])] K := by
 refine CallTo.con hP hE (ysub_q ha hb h) ⟨rfl, rfl, trivial⟩ ?_
 have := hk _ rfl (ha.b.sub hb.b).is (ha.b.sub hb.b).is.x (ha.b.sub hb.b).is.y
 simp only [outV, outW, List.append_nil]
 exact this
theorem ysub_p {a : Pt} {A : Pq} {k : Nat} {b : Pt} {B : Pq} {l : Nat} (ha : IsP k a A) (hb : IsP l b B) (h : k + l <= 134217728) : ∃ (r0 : Pt), r0 = crP (A.sub B) /\ IsP (k + l + 1) r0 (A.sub B) /\ Con Tryz.prog 100 [.v a.v, .v b.v] (.v (r0.v)) := ⟨_, rfl, (ha.b.sub hb.b).is, ysub_q ha hb h⟩
theorem yscale_c {P' : Program} {E : Env} (hP : P' = Tryz.prog) (hE : E = Env.std) {hh : List Blk} {K : AV -> List Blk -> Prop} {an0 an1 : Bool} {au0 ad0 au1 ad1 : ByteArray} {A : Pq} {k : Nat} {bn0 : Bool} {bu0 bd0 : ByteArray} {x : Rat} {l : Nat} (ha : IsP k ⟨⟨an0, au0, ad0⟩, ⟨an1, au1, ad1⟩⟩ A) (hb : Is l ⟨bn0, bu0, bd0⟩ x) (h : k + l <= 134217728) (hk : ∀ r0 : Pt, r0 = crP (A.scale x) -> IsP (k + l) r0 (A.scale x) -> Is (k + l) r0.x (A.scale x).x -> Is (k + l) r0.y (A.scale x).y -> K (.v (r0.v)) hh) : CallTo P' hh 109 [.v (.agg #[.bool an0, .string au0, .string ad0, .bool an1, .string au1, .string ad1]), .v (.agg #[.bool bn0, .string bu0, .string bd0])] K := by
 refine CallTo.con hP hE (yscale_q ha hb h) ⟨rfl, rfl, trivial⟩ ?_
 have := hk _ rfl (ha.b.scale hb.b).is (ha.b.scale hb.b).is.x (ha.b.scale hb.b).is.y
 simp only [outV, outW, List.append_nil]
 exact this
theorem ydot_p {a : Pt} {A : Pq} {k : Nat} {b : Pt} {B : Pq} {l : Nat} (ha : IsP k a A) (hb : IsP l b B) (h : 2 * (k + l) <= 134217728) : ∃ (r0 : R), r0 = cr (A.dot B) /\ Is (2 * (k + l) + 1) r0 (A.dot B) /\ Con Tryz.prog 151 [.v a.v, .v b.v] (.v (r0.v)) := ⟨_, rfl, (ha.b.dot hb.b).is, ydot_q ha hb h⟩
theorem ycross_c {P' : Program} {E : Env} (hP : P' = Tryz.prog) (hE : E = Env.std) {hh : List Blk} {K : AV -> List Blk -> Prop} {an0 an1 : Bool} {au0 ad0 au1 ad1 : ByteArray} {A : Pq} {k : Nat} {bn0 bn1 : Bool} {bu0 bd0 bu1 bd1 : ByteArray} {B : Pq} {l : Nat} (ha : IsP k ⟨⟨an0, au0, ad0⟩, ⟨an1, au1, ad1⟩⟩ A) (hb : IsP l ⟨⟨bn0, bu0, bd0⟩, ⟨bn1, bu1, bd1⟩⟩ B) (h : 2 * (k + l) <= 134217728) (hk : ∀ r0 : R, r0 = cr (A.cross B) -> Is (2 * (k + l) + 1) r0 (A.cross B) -> K (.v (r0.v)) hh) : CallTo P' hh 101 [.v (.agg #[.bool an0, .string au0, .string ad0, .bool an1, .string au1, .string ad1]), .v (.agg #[.bool bn0, .string bu0, .string bd0, .bool bn1, .string bu1, .string bd1])] K := by
 refine CallTo.con hP hE (ycross_q ha hb h) ⟨rfl, rfl, trivial⟩ ?_
 have := hk _ rfl (ha.b.cross hb.b).is 
 simp only [outV, outW, List.append_nil]
 exact this
theorem ycmp_q {a : Pt} {A : Pq} {k : Nat} {b : Pt} {B : Pq} {l : Nat} (ha : IsP k a A) (hb : IsP l b B) (h : k + l <= 134217728) : Con Tryz.prog 106 [.v a.v, .v b.v] (.v (.int .i64 (cmpP A B))) := by
 obtain ⟨⟨an0, au0, ad0⟩, ⟨an1, au1, ad1⟩⟩ := a
 have hax : Is k ⟨an0, au0, ad0⟩ A.x := ha.x
 have hay : Is k ⟨an1, au1, ad1⟩ A.y := ha.y
 obtain ⟨⟨bn0, bu0, bd0⟩, ⟨bn1, bu1, bd1⟩⟩ := b
 have hbx : Is l ⟨bn0, bu0, bd0⟩ B.x := hb.x
 have hby : Is l ⟨bn1, bu1, bd1⟩ B.y := hb.y
 obtain ⟨r0, e0⟩ : ∃ r, r = cmpP A B := ⟨_, rfl⟩
 rw [<- e0]
 refine Con.of ttOk mixed Tryz.func106 {} .nil 0 (by kernel_rfl) (fun P' E hP hE => ?_)
 cbv
 refine xcmp_c hP hE (by assumption) (by assumption) (by omega) ?_
 intro m1 em1
 cbv
 refine fork.mk ?_ ?_
 ·intro k1
  cbv
  subst hE
  have k1 : Env.std.ic .neq m1 0 = true := k1
  simp at k1
  rw [e0, em1, cmpP, if_pos (by rw [<- em1]; exact k1)]
 ·intro k1
  cbv
  refine xcmp_c hP hE (by assumption) (by assumption) (by omega) ?_
  intro m2 em2
  cbv
  subst hE
  have k1 : Env.std.ic .neq m1 0 = false := k1
  simp at k1
  rw [e0, em2, cmpP, if_neg (by rw [<- em1, k1]; simp)]
theorem ycmp_c {P' : Program} {E : Env} (hP : P' = Tryz.prog) (hE : E = Env.std) {hh : List Blk} {K : AV -> List Blk -> Prop} {an0 an1 : Bool} {au0 ad0 au1 ad1 : ByteArray} {A : Pq} {k : Nat} {bn0 bn1 : Bool} {bu0 bd0 bu1 bd1 : ByteArray} {B : Pq} {l : Nat} (ha : IsP k ⟨⟨an0, au0, ad0⟩, ⟨an1, au1, ad1⟩⟩ A) (hb : IsP l ⟨⟨bn0, bu0, bd0⟩, ⟨bn1, bu1, bd1⟩⟩ B) (h : k + l <= 134217728) (hk : ∀ r0 : Int, r0 = cmpP A B -> K (.v (.int .i64 r0)) hh) : CallTo P' hh 106 [.v (.agg #[.bool an0, .string au0, .string ad0, .bool an1, .string au1, .string ad1]), .v (.agg #[.bool bn0, .string bu0, .string bd0, .bool bn1, .string bu1, .string bd1])] K := by
 refine CallTo.con hP hE (ycmp_q ha hb h) ⟨rfl, rfl, trivial⟩ ?_
 have := hk _ rfl
 simp only [outV, outW, List.append_nil]
 exact this
theorem ycmp_p {a : Pt} {A : Pq} {k : Nat} {b : Pt} {B : Pq} {l : Nat} (ha : IsP k a A) (hb : IsP l b B) (h : k + l <= 134217728) : ∃ (r0 : Int), r0 = cmpP A B /\ Con Tryz.prog 106 [.v a.v, .v b.v] (.v (.int .i64 r0)) := ⟨_, rfl, ycmp_q ha hb h⟩
theorem yat_q {a : Pt} {A : Pq} {k : Nat} {b : Pt} {B : Pq} {l : Nat} {c : R} {x : Rat} {m : Nat} (ha : IsP k a A) (hb : IsP l b B) (hc : Is m c x) (h : 2 * k + l + m + 1 <= 134217728) : Con Tryz.prog 147 [.v a.v, .v b.v, .v c.v] (.v ((crP (A.at B x)).v)) := by
 obtain ⟨⟨an0, au0, ad0⟩, ⟨an1, au1, ad1⟩⟩ := a
 have hax : Is k ⟨an0, au0, ad0⟩ A.x := ha.x
 have hay : Is k ⟨an1, au1, ad1⟩ A.y := ha.y
 obtain ⟨⟨bn0, bu0, bd0⟩, ⟨bn1, bu1, bd1⟩⟩ := b
 have hbx : Is l ⟨bn0, bu0, bd0⟩ B.x := hb.x
 have hby : Is l ⟨bn1, bu1, bd1⟩ B.y := hb.y
 obtain ⟨cn0, cu0, cd0⟩ := c
 obtain ⟨r0, e0⟩ : ∃ r, r = crP (A.at B x) := ⟨_, rfl⟩
 rw [<- e0]
 refine Con.of ttOk mixed Tryz.func147 { ord := [(1, [0, 1, 2, 4, 3, 5, 6, 7])] } .nil 0 (by kernel_rfl) (fun P' E hP hE => ?_)
 cbv
 refine ysub_c hP hE (by assumption) (by assumption) (by omega) ?_
 intro c1 ec1 hc1 hc1x hc1y
 cbv
 refine yscale_c hP hE (by assumption) (by assumption) (by omega) ?_
 intro c2 ec2 hc2 hc2x hc2y
 cbv
 refine yadd_c hP hE (by assumption) (by assumption) (by omega) ?_
 intro c3 ec3 hc3 hc3x hc3y
 cbv
 rw [e0, ec3]; rfl
theorem yat_c {P' : Program} {E : Env} (hP : P' = Tryz.prog) (hE : E = Env.std) {hh : List Blk} {K : AV -> List Blk -> Prop} {an0 an1 : Bool} {au0 ad0 au1 ad1 : ByteArray} {A : Pq} {k : Nat} {bn0 bn1 : Bool} {bu0 bd0 bu1 bd1 : ByteArray} {B : Pq} {l : Nat} {cn0 : Bool} {cu0 cd0 : ByteArray} {x : Rat} {m : Nat} (ha : IsP k ⟨⟨an0, au0, ad0⟩, ⟨an1, au1, ad1⟩⟩ A) (hb : IsP l ⟨⟨bn0, bu0, bd0⟩, ⟨bn1, bu1, bd1⟩⟩ B) (hc : Is m ⟨cn0, cu0, cd0⟩ x) (h : 2 * k + l + m + 1 <= 134217728) (hk : ∀ r0 : Pt, r0 = crP (A.at B x) -> IsP (2 * k + l + m + 2) r0 (A.at B x) -> Is (2 * k + l + m + 2) r0.x (A.at B x).x -> Is (2 * k + l + m + 2) r0.y (A.at B x).y -> K (.v (r0.v)) hh) : CallTo P' hh 147 [.v (.agg #[.bool an0, .string au0, .string ad0, .bool an1, .string au1, .string ad1]), .v (.agg #[.bool bn0, .string bu0, .string bd0, .bool bn1, .string bu1, .string bd1]), .v (.agg #[.bool cn0, .string cu0, .string cd0])] K := by
 refine CallTo.con hP hE (yat_q ha hb hc h) ⟨rfl, rfl, rfl, trivial⟩ ?_
 have := hk _ rfl (ha.b.at hb.b hc.b).is (ha.b.at hb.b hc.b).is.x (ha.b.at hb.b hc.b).is.y
 simp only [outV, outW, List.append_nil]
 exact this
theorem yat_p {a : Pt} {A : Pq} {k : Nat} {b : Pt} {B : Pq} {l : Nat} {c : R} {x : Rat} {m : Nat} (ha : IsP k a A) (hb : IsP l b B) (hc : Is m c x) (h : 2 * k + l + m + 1 <= 134217728) : ∃ (r0 : Pt), r0 = crP (A.at B x) /\ IsP (2 * k + l + m + 2) r0 (A.at B x) /\ Con Tryz.prog 147 [.v a.v, .v b.v, .v c.v] (.v (r0.v)) := ⟨_, rfl, (ha.b.at hb.b hc.b).is, yat_q ha hb hc h⟩
theorem yor_q {a : Pt} {A : Pq} {k : Nat} {b : Pt} {B : Pq} {c : Pt} {C : Pq} (ha : IsP k a A) (hb : IsP k b B) (hc : IsP k c C) (h : 16 * k + 16 <= 134217728) : Con Tryz.prog 103 [.v a.v, .v b.v, .v c.v] (.v (.int .i64 (orQ A B C))) := by
 obtain ⟨⟨an0, au0, ad0⟩, ⟨an1, au1, ad1⟩⟩ := a
 have hax : Is k ⟨an0, au0, ad0⟩ A.x := ha.x
 have hay : Is k ⟨an1, au1, ad1⟩ A.y := ha.y
 obtain ⟨⟨bn0, bu0, bd0⟩, ⟨bn1, bu1, bd1⟩⟩ := b
 have hbx : Is k ⟨bn0, bu0, bd0⟩ B.x := hb.x
 have hby : Is k ⟨bn1, bu1, bd1⟩ B.y := hb.y
 obtain ⟨⟨cn0, cu0, cd0⟩, ⟨cn1, cu1, cd1⟩⟩ := c
 have hcx : Is k ⟨cn0, cu0, cd0⟩ C.x := hc.x
 have hcy : Is k ⟨cn1, cu1, cd1⟩ C.y := hc.y
 obtain ⟨r0, e0⟩ : ∃ r, r = orQ A B C := ⟨_, rfl⟩
 rw [<- e0]
 refine Con.of ttOk mixed Tryz.func103 { ord := [(1, [0, 1, 3, 4, 2, 5, 6, 7, 8])] } .nil 0 (by kernel_rfl) (fun P' E hP hE => ?_)
 cbv
 refine ysub_c hP hE (by assumption) (by assumption) (by omega) ?_
 intro c1 ec1 hc1 hc1x hc1y
 cbv
 refine ysub_c hP hE (by assumption) (by assumption) (by omega) ?_
 intro c2 ec2 hc2 hc2x hc2y
 cbv
 refine ycross_c hP hE (by assumption) (by assumption) (by omega) ?_
 intro c3 ec3 hc3
 cbv
 refine xsign_c hP hE (by assumption) (by omega) ?_
 intro m4 em4
 cbv
 rw [e0, em4]; rfl
theorem yor_c {P' : Program} {E : Env} (hP : P' = Tryz.prog) (hE : E = Env.std) {hh : List Blk} {K : AV -> List Blk -> Prop} {an0 an1 : Bool} {au0 ad0 au1 ad1 : ByteArray} {A : Pq} {k : Nat} {bn0 bn1 : Bool} {bu0 bd0 bu1 bd1 : ByteArray} {B : Pq} {cn0 cn1 : Bool} {cu0 cd0 cu1 cd1 : ByteArray} {C : Pq} (ha : IsP k ⟨⟨an0, au0, ad0⟩, ⟨an1, au1, ad1⟩⟩ A) (hb : IsP k ⟨⟨bn0, bu0, bd0⟩, ⟨bn1, bu1, bd1⟩⟩ B) (hc : IsP k ⟨⟨cn0, cu0, cd0⟩, ⟨cn1, cu1, cd1⟩⟩ C) (h : 16 * k + 16 <= 134217728) (hk : ∀ r0 : Int, r0 = orQ A B C -> K (.v (.int .i64 r0)) hh) : CallTo P' hh 103 [.v (.agg #[.bool an0, .string au0, .string ad0, .bool an1, .string au1, .string ad1]), .v (.agg #[.bool bn0, .string bu0, .string bd0, .bool bn1, .string bu1, .string bd1]), .v (.agg #[.bool cn0, .string cu0, .string cd0, .bool cn1, .string cu1, .string cd1])] K := by
 refine CallTo.con hP hE (yor_q ha hb hc h) ⟨rfl, rfl, rfl, trivial⟩ ?_
 have := hk _ rfl
 simp only [outV, outW, List.append_nil]
 exact this
end Go.Proofs.YtfdealobplcboaaGreat.Sx

set_option linter.unusedVariables false
set_option linter.unusedSimpArgs false
set_option maxRecDepth 100000
set_option maxHeartbeats 4000000
namespace Go.Proofs.YtfdealobplcboaaGreat.Sx
/-- The reference: does an ordered segment contain a point of its line? -/
def inQ (s : Sq) (p : Pq) : Bool := decide (cmpP s.a p <= 0 /\ cmpP p s.b <= 0)
def onR (s : Sq) (p : Pq) : Bool := decide (orQ s.a s.b p = 0) && inQ (ordS s) p
theorem onR_eq (s : Sq) (p : Pq) : onR s p = onQ s p := by
 rw [Bool.eq_iff_iff, on_iff, on_lex]
 unfold onR inQ orQ
 rw [Bool.and_eq_true, decide_eq_true_iff, decide_eq_true_iff, cmpQ_eq, leP_cmp, leP_cmp]
theorem cmpP_neg {p q : Pq} : cmpP p q < 0 ↔ ¬ leP q p := by
 rw [leP_lt, cmpP_gt, cmpP_lt]; grind
end Go.Proofs.YtfdealobplcboaaGreat.Sx

set_option linter.unusedVariables false
set_option linter.unusedSimpArgs false
set_option maxRecDepth 100000
set_option maxHeartbeats 8000000
namespace Go.Proofs.YtfdealobplcboaaGreat.Sx
theorem ycan_q {a : Pt} {A : Pq} {k : Nat} (ha : IsP k a A) (h : k + 1 <= 134217728) : Con Tryz.prog 113 [.v a.v] (.v ((crP (A)).v)) := by
 obtain ⟨⟨an0, au0, ad0⟩, ⟨an1, au1, ad1⟩⟩ := a
 have hax : Is k ⟨an0, au0, ad0⟩ A.x := ha.x
 have hay : Is k ⟨an1, au1, ad1⟩ A.y := ha.y
 obtain ⟨r0, e0⟩ : ∃ r, r = crP (A) := ⟨_, rfl⟩
 rw [<- e0]
 have hz := IsP.zero
 refine Con.of ttOk mixed Tryz.func113 {} .nil 0 (by kernel_rfl) (fun P' E hP hE => ?_)
 cbv
 refine yadd_c hP hE (by assumption) (by assumption) (by omega) ?_
 intro c1 ec1 hc1 hc1x hc1y
 cbv
 rw [Pq.add_zero] at ec1
 rw [e0, ec1]
theorem ycan_c {P' : Program} {E : Env} (hP : P' = Tryz.prog) (hE : E = Env.std) {hh : List Blk} {K : AV -> List Blk -> Prop} {an0 an1 : Bool} {au0 ad0 au1 ad1 : ByteArray} {A : Pq} {k : Nat} (ha : IsP k ⟨⟨an0, au0, ad0⟩, ⟨an1, au1, ad1⟩⟩ A) (h : k + 1 <= 134217728) (hk : ∀ r0 : Pt, r0 = crP (A) -> IsP (k) r0 (A) -> Is (k) r0.x (A).x -> Is (k) r0.y (A).y -> K (.v (r0.v)) hh) : CallTo P' hh 113 [.v (.agg #[.bool an0, .string au0, .string ad0, .bool an1, .string au1, .string ad1])] K := by
 refine CallTo.con hP hE (ycan_q ha h) ⟨rfl, trivial⟩ ?_
 have := hk _ rfl (ha.b).is (ha.b).is.x (ha.b).is.y
 simp only [outV, outW, List.append_nil]
 exact this
theorem ycan_p {a : Pt} {A : Pq} {k : Nat} (ha : IsP k a A) (h : k + 1 <= 134217728) : ∃ (r0 : Pt), r0 = crP (A) /\ IsP (k) r0 (A) /\ Con Tryz.prog 113 [.v a.v] (.v (r0.v)) := ⟨_, rfl, (ha.b).is, ycan_q ha h⟩
theorem ychk_q {a : Sg} {S : Sq} {k : Nat} (ha : IsS k a S) (h : 2 * k <= 134217728) : Con Tryz.prog 35 [.v a.v] (.v (.int .i64 (chkQ S))) := by
 obtain ⟨⟨⟨an0, au0, ad0⟩, ⟨an1, au1, ad1⟩⟩, ⟨⟨an2, au2, ad2⟩, ⟨an3, au3, ad3⟩⟩⟩ := a
 have haa : IsP k ⟨⟨an0, au0, ad0⟩, ⟨an1, au1, ad1⟩⟩ S.a := ha.a
 have hab : IsP k ⟨⟨an2, au2, ad2⟩, ⟨an3, au3, ad3⟩⟩ S.b := ha.b
 have haax : Is k ⟨an0, au0, ad0⟩ S.a.x := ha.a.x
 have haay : Is k ⟨an1, au1, ad1⟩ S.a.y := ha.a.y
 have habx : Is k ⟨an2, au2, ad2⟩ S.b.x := ha.b.x
 have haby : Is k ⟨an3, au3, ad3⟩ S.b.y := ha.b.y
 obtain ⟨r0, e0⟩ : ∃ r, r = chkQ S := ⟨_, rfl⟩
 rw [<- e0]
 refine Con.of ttOk mixed Tryz.func35 {} .nil 0 (by kernel_rfl) (fun P' E hP hE => ?_)
 cbv
 refine ycmp_c hP hE (by assumption) (by assumption) (by omega) ?_
 intro m1 em1
 cbv
 refine fork.mk ?_ ?_
 ·intro k1
  cbv
  subst hE
  simp [Env.std] at k1
  simp [e0, chkQ, <- em1, k1]
 ·intro k1
  cbv
  subst hE
  simp [Env.std] at k1
  simp [e0, chkQ, <- em1, k1]
theorem ychk_c {P' : Program} {E : Env} (hP : P' = Tryz.prog) (hE : E = Env.std) {hh : List Blk} {K : AV -> List Blk -> Prop} {an0 an1 an2 an3 : Bool} {au0 ad0 au1 ad1 au2 ad2 au3 ad3 : ByteArray} {S : Sq} {k : Nat} (ha : IsS k ⟨⟨⟨an0, au0, ad0⟩, ⟨an1, au1, ad1⟩⟩, ⟨⟨an2, au2, ad2⟩, ⟨an3, au3, ad3⟩⟩⟩ S) (h : 2 * k <= 134217728) (hk : ∀ r0 : Int, r0 = chkQ S -> K (.v (.int .i64 r0)) hh) : CallTo P' hh 35 [.v (.agg #[.bool an0, .string au0, .string ad0, .bool an1, .string au1, .string ad1, .bool an2, .string au2, .string ad2, .bool an3, .string au3, .string ad3])] K := by
 refine CallTo.con hP hE (ychk_q ha h) ⟨rfl, trivial⟩ ?_
 have := hk _ rfl
 simp only [outV, outW, List.append_nil]
 exact this
theorem ychk_p {a : Sg} {S : Sq} {k : Nat} (ha : IsS k a S) (h : 2 * k <= 134217728) : ∃ (r0 : Int), r0 = chkQ S /\ Con Tryz.prog 35 [.v a.v] (.v (.int .i64 r0)) := ⟨_, rfl, ychk_q ha h⟩
theorem yord_q {a : Sg} {S : Sq} {k : Nat} (ha : IsS k a S) (h : 2 * k + 1 <= 134217728) : Con Tryz.prog 37 [.v a.v] (.v ((crS (ordS S)).v)) := by
 obtain ⟨⟨⟨an0, au0, ad0⟩, ⟨an1, au1, ad1⟩⟩, ⟨⟨an2, au2, ad2⟩, ⟨an3, au3, ad3⟩⟩⟩ := a
 have haa : IsP k ⟨⟨an0, au0, ad0⟩, ⟨an1, au1, ad1⟩⟩ S.a := ha.a
 have hab : IsP k ⟨⟨an2, au2, ad2⟩, ⟨an3, au3, ad3⟩⟩ S.b := ha.b
 have haax : Is k ⟨an0, au0, ad0⟩ S.a.x := ha.a.x
 have haay : Is k ⟨an1, au1, ad1⟩ S.a.y := ha.a.y
 have habx : Is k ⟨an2, au2, ad2⟩ S.b.x := ha.b.x
 have haby : Is k ⟨an3, au3, ad3⟩ S.b.y := ha.b.y
 obtain ⟨r0, e0⟩ : ∃ r, r = crS (ordS S) := ⟨_, rfl⟩
 rw [<- e0]
 refine Con.of ttOk mixed Tryz.func37 { ord := [(2, [0, 1, 3, 4, 2, 5, 6, 7]), (3, [0, 1, 3, 4, 2, 5, 6, 7])] } .nil 0 (by kernel_rfl) (fun P' E hP hE => ?_)
 cbv
 refine ycmp_c hP hE (by assumption) (by assumption) (by omega) ?_
 intro m1 em1
 cbv
 refine fork.mk ?_ ?_
 ·intro g1
  cbv
  refine ycan_c hP hE (by assumption) (by omega) ?_
  intro c1 ec1 hc1 hc1x hc1y
  cbv
  refine ycan_c hP hE (by assumption) (by omega) ?_
  intro c2 ec2 hc2 hc2x hc2y
  cbv
  subst hE
  simp [Env.std] at g1
  rw [e0, ordS, if_pos (by rw [<- em1]; exact g1), ec1, ec2]; rfl
 ·intro g1
  cbv
  refine ycan_c hP hE (by assumption) (by omega) ?_
  intro c1 ec1 hc1 hc1x hc1y
  cbv
  refine ycan_c hP hE (by assumption) (by omega) ?_
  intro c2 ec2 hc2 hc2x hc2y
  cbv
  subst hE
  simp [Env.std] at g1
  rw [e0, ordS, if_neg (by rw [<- em1]; omega), ec1, ec2]; rfl
theorem yord_c {P' : Program} {E : Env} (hP : P' = Tryz.prog) (hE : E = Env.std) {hh : List Blk} {K : AV -> List Blk -> Prop} {an0 an1 an2 an3 : Bool} {au0 ad0 au1 ad1 au2 ad2 au3 ad3 : ByteArray} {S : Sq} {k : Nat} (ha : IsS k ⟨⟨⟨an0, au0, ad0⟩, ⟨an1, au1, ad1⟩⟩, ⟨⟨an2, au2, ad2⟩, ⟨an3, au3, ad3⟩⟩⟩ S) (h : 2 * k + 1 <= 134217728) (hk : ∀ r0 : Sg, r0 = crS (ordS S) -> IsS (k) r0 (ordS S) -> r0.a = crP (ordS S).a -> r0.b = crP (ordS S).b -> IsP (k) r0.a (ordS S).a -> IsP (k) r0.b (ordS S).b -> Is (k) r0.a.x (ordS S).a.x -> Is (k) r0.a.y (ordS S).a.y -> Is (k) r0.b.x (ordS S).b.x -> Is (k) r0.b.y (ordS S).b.y -> K (.v (r0.v)) hh) : CallTo P' hh 37 [.v (.agg #[.bool an0, .string au0, .string ad0, .bool an1, .string au1, .string ad1, .bool an2, .string au2, .string ad2, .bool an3, .string au3, .string ad3])] K := by
 refine CallTo.con hP hE (yord_q ha h) ⟨rfl, trivial⟩ ?_
 have := hk _ rfl (ha.bd.ord).is rfl rfl (ha.bd.ord).is.a (ha.bd.ord).is.b (ha.bd.ord).is.a.x (ha.bd.ord).is.a.y (ha.bd.ord).is.b.x (ha.bd.ord).is.b.y
 simp only [outV, outW, List.append_nil]
 exact this
theorem yord_p {a : Sg} {S : Sq} {k : Nat} (ha : IsS k a S) (h : 2 * k + 1 <= 134217728) : ∃ (r0 : Sg), r0 = crS (ordS S) /\ IsS (k) r0 (ordS S) /\ Con Tryz.prog 37 [.v a.v] (.v (r0.v)) := ⟨_, rfl, (ha.bd.ord).is, yord_q ha h⟩
theorem yin_q {a : Sg} {S : Sq} {k : Nat} {b : Pt} {A : Pq} {l : Nat} (ha : IsS k a S) (hb : IsP l b A) (h : k + l <= 134217728) : Con Tryz.prog 110 [.v a.v, .v b.v] (.v (.bool (inQ S A))) := by
 obtain ⟨⟨⟨an0, au0, ad0⟩, ⟨an1, au1, ad1⟩⟩, ⟨⟨an2, au2, ad2⟩, ⟨an3, au3, ad3⟩⟩⟩ := a
 have haa : IsP k ⟨⟨an0, au0, ad0⟩, ⟨an1, au1, ad1⟩⟩ S.a := ha.a
 have hab : IsP k ⟨⟨an2, au2, ad2⟩, ⟨an3, au3, ad3⟩⟩ S.b := ha.b
 have haax : Is k ⟨an0, au0, ad0⟩ S.a.x := ha.a.x
 have haay : Is k ⟨an1, au1, ad1⟩ S.a.y := ha.a.y
 have habx : Is k ⟨an2, au2, ad2⟩ S.b.x := ha.b.x
 have haby : Is k ⟨an3, au3, ad3⟩ S.b.y := ha.b.y
 obtain ⟨⟨bn0, bu0, bd0⟩, ⟨bn1, bu1, bd1⟩⟩ := b
 have hbx : Is l ⟨bn0, bu0, bd0⟩ A.x := hb.x
 have hby : Is l ⟨bn1, bu1, bd1⟩ A.y := hb.y
 obtain ⟨r0, e0⟩ : ∃ r, r = inQ S A := ⟨_, rfl⟩
 rw [<- e0]
 have hin : inQ S A = (decide (cmpP S.a A <= 0) && decide (cmpP A S.b <= 0)) := by unfold inQ; rw [Bool.decide_and]
 refine Con.of ttOk mixed Tryz.func110 {} .nil 0 (by kernel_rfl) (fun P' E hP hE => ?_)
 cbv
 refine ycmp_c hP hE (by assumption) (by assumption) (by omega) ?_
 intro m1 em1
 cbv
 refine fork.mk ?_ ?_
 ·intro g1
  cbv
  refine ycmp_c hP hE (by assumption) (by assumption) (by omega) ?_
  intro m2 em2
  cbv
  subst hE
  have g1 : decide (m1 <= 0) = true := g1
  refine congrArg Value.bool ?_
  rw [e0, hin, <- em1, <- em2, g1]; rfl
 ·intro g1
  cbv
  subst hE
  have g1 : decide (m1 <= 0) = false := g1
  rw [e0, hin, <- em1, g1]; rfl
theorem yin_c {P' : Program} {E : Env} (hP : P' = Tryz.prog) (hE : E = Env.std) {hh : List Blk} {K : AV -> List Blk -> Prop} {an0 an1 an2 an3 : Bool} {au0 ad0 au1 ad1 au2 ad2 au3 ad3 : ByteArray} {S : Sq} {k : Nat} {bn0 bn1 : Bool} {bu0 bd0 bu1 bd1 : ByteArray} {A : Pq} {l : Nat} (ha : IsS k ⟨⟨⟨an0, au0, ad0⟩, ⟨an1, au1, ad1⟩⟩, ⟨⟨an2, au2, ad2⟩, ⟨an3, au3, ad3⟩⟩⟩ S) (hb : IsP l ⟨⟨bn0, bu0, bd0⟩, ⟨bn1, bu1, bd1⟩⟩ A) (h : k + l <= 134217728) (hk : ∀ r0 : Bool, r0 = inQ S A -> K (.v (.bool r0)) hh) : CallTo P' hh 110 [.v (.agg #[.bool an0, .string au0, .string ad0, .bool an1, .string au1, .string ad1, .bool an2, .string au2, .string ad2, .bool an3, .string au3, .string ad3]), .v (.agg #[.bool bn0, .string bu0, .string bd0, .bool bn1, .string bu1, .string bd1])] K := by
 refine CallTo.con hP hE (yin_q ha hb h) ⟨rfl, rfl, trivial⟩ ?_
 have := hk _ rfl
 simp only [outV, outW, List.append_nil]
 exact this
theorem yon_q {a : Sg} {S : Sq} {k : Nat} {b : Pt} {A : Pq} (ha : IsS k a S) (hb : IsP k b A) (h : 16 * k + 16 <= 134217728) : Con Tryz.prog 38 [.v a.v, .v b.v] (.v (.bool (onR S A))) := by
 obtain ⟨⟨⟨an0, au0, ad0⟩, ⟨an1, au1, ad1⟩⟩, ⟨⟨an2, au2, ad2⟩, ⟨an3, au3, ad3⟩⟩⟩ := a
 have haa : IsP k ⟨⟨an0, au0, ad0⟩, ⟨an1, au1, ad1⟩⟩ S.a := ha.a
 have hab : IsP k ⟨⟨an2, au2, ad2⟩, ⟨an3, au3, ad3⟩⟩ S.b := ha.b
 have haax : Is k ⟨an0, au0, ad0⟩ S.a.x := ha.a.x
 have haay : Is k ⟨an1, au1, ad1⟩ S.a.y := ha.a.y
 have habx : Is k ⟨an2, au2, ad2⟩ S.b.x := ha.b.x
 have haby : Is k ⟨an3, au3, ad3⟩ S.b.y := ha.b.y
 obtain ⟨⟨bn0, bu0, bd0⟩, ⟨bn1, bu1, bd1⟩⟩ := b
 have hbx : Is k ⟨bn0, bu0, bd0⟩ A.x := hb.x
 have hby : Is k ⟨bn1, bu1, bd1⟩ A.y := hb.y
 obtain ⟨r0, e0⟩ : ∃ r, r = onR S A := ⟨_, rfl⟩
 rw [<- e0]
 refine Con.of ttOk mixed Tryz.func38 { ord := [(1, [0, 1, 2, 3, 4, 5, 6, 7, 8, 10, 9, 11, 12, 13])] } .nil 0 (by kernel_rfl) (fun P' E hP hE => ?_)
 cbv
 refine yor_c hP hE (by assumption) (by assumption) (by assumption) (by omega) ?_
 intro m1 em1
 cbv
 refine fork.mk ?_ ?_
 ·intro g1
  cbv
  refine yord_c hP hE (by assumption) (by omega) ?_
  intro o eo ho eoa eob hoa hob hoax hoay hobx hoby
  cbv
  refine yin_c hP hE ho hb (by omega) ?_
  intro m2 em2
  cbv
  subst hE
  have g1 : decide (m1 = 0) = true := g1
  rw [e0, onR, <- em1, g1, em2]; rfl
 ·intro g1
  cbv
  subst hE
  have g1 : decide (m1 = 0) = false := g1
  rw [e0, onR, <- em1, g1]; rfl
theorem yon_p {a : Sg} {S : Sq} {k : Nat} {b : Pt} {A : Pq} (ha : IsS k a S) (hb : IsP k b A) (h : 16 * k + 16 <= 134217728) : ∃ (r0 : Bool), r0 = onR S A /\ Con Tryz.prog 38 [.v a.v, .v b.v] (.v (.bool r0)) := ⟨_, rfl, yon_q ha hb h⟩
end Go.Proofs.YtfdealobplcboaaGreat.Sx

set_option linter.unusedVariables false
set_option linter.unusedSimpArgs false
set_option maxRecDepth 100000
set_option maxHeartbeats 4000000
namespace Go.Proofs.YtfdealobplcboaaGreat.Sx
/-- The reference's ordinate of an ordered segment at an abscissa, and its error. -/
def hgtRE (o : Sq) (x : Rat) : Int := if cmpQ (o.b.x - o.a.x) 0 = 0 then 24 else if cmpQ x o.a.x < 0 \/ 0 < cmpQ x o.b.x then 14 else 0
def hgtRV (o : Sq) (x : Rat) : Rat := (o.a.at o.b ((x - o.a.x) / (o.b.x - o.a.x))).y
theorem hgtRE_eq {s : Sq} {x : Rat} (hs : chkQ s = 0) : hgtRE (ordS s) x = heightE s x := by
 have hle := ordS_le s
 unfold hgtRE heightE
 rw [if_neg (c := chkQ s ≠ 0) (fun h => h hs)]
 by_cases hd : s.a.x = s.b.x
 ·have h1 : (ordS s).b.x - (ordS s).a.x = 0 := by
   rcases ord_cases s with ⟨e1, e2⟩ | ⟨e1, e2⟩ <;> rw [e1, e2] <;> grind
  have h2 : (s.b.sub s.a).x = 0 := by simp only [Pq.sub]; grind
  rw [if_pos (cmpQ_eq.2 h1), if_pos (dvE_iff.2 h2)]
 ·have h1 : ¬ (ordS s).b.x - (ordS s).a.x = 0 := by
   rcases ord_cases s with ⟨e1, e2⟩ | ⟨e1, e2⟩ <;> rw [e1, e2] <;> grind
  have h2 : ¬ (s.b.sub s.a).x = 0 := by simp only [Pq.sub]; grind
  rw [if_neg (fun h => h1 (cmpQ_eq.1 h)), if_neg (fun h => h2 (dvE_iff.1 h))]
  have hu := hpar_unit (x := x) hd
  have key : (¬ (cmpQ x (ordS s).a.x < 0 \/ 0 < cmpQ x (ordS s).b.x)) ↔ unitQ (hparQ s x) = true := by
   rw [hu, cmpQ_lt, cmpQ_gt]
   have q1 := cmpQ_rng s.a.x x
   have q2 := cmpQ_rng s.b.x x
   have l1 := @cmpQ_lt s.a.x x
   have l2 := @cmpQ_lt s.b.x x
   have l3 := @cmpQ_gt s.a.x x
   have l4 := @cmpQ_gt s.b.x x
   have hm : 0 < cmpQ s.a.x x * cmpQ s.b.x x ↔ (s.a.x < x /\ s.b.x < x) \/ (x < s.a.x /\ x < s.b.x) := by
    rw [<- l1, <- l2, <- l3, <- l4]
    rcases q1 with q1 | q1 | q1 <;> rcases q2 with q2 | q2 | q2 <;> rw [q1, q2] <;> decide
   rw [hm]
   unfold leP at hle
   rcases ord_cases s with ⟨e1, e2⟩ | ⟨e1, e2⟩ <;> rw [e1, e2] at hle ⊢ <;> grind
  by_cases hc : cmpQ x (ordS s).a.x < 0 \/ 0 < cmpQ x (ordS s).b.x
  ·rw [if_pos hc, if_neg (fun h => key.2 h hc)]
  ·rw [if_neg hc, if_pos (key.1 hc)]
theorem hgtRV_eq {s : Sq} {x : Rat} (he : heightE s x = 0) : hgtRV (ordS s) x = heightQ s x := by
 unfold heightQ
 rw [if_pos he]
 have hd : ¬ s.a.x = s.b.x := by
  intro h
  have h2 : (s.b.sub s.a).x = 0 := by simp only [Pq.sub]; grind
  unfold heightE at he
  split at he
  ·cases he
  ·rw [if_pos (dvE_iff.2 h2)] at he; cases he
 have hw : ¬ s.b.x - s.a.x = 0 := by grind
 have hw' : ¬ s.a.x - s.b.x = 0 := by grind
 unfold hgtRV hparQ
 rcases ord_cases s with ⟨e1, e2⟩ | ⟨e1, e2⟩
 ·rw [e1, e2]
  simp only [Pq.at, Pq.add, Pq.scale, Pq.sub]; grind
 ·rw [e1, e2]
  obtain ⟨u, hu⟩ : ∃ u, u = (x - s.b.x) / (s.a.x - s.b.x) := ⟨_, rfl⟩
  obtain ⟨v, hv⟩ : ∃ v, v = (x - s.a.x) / (s.b.x - s.a.x) := ⟨_, rfl⟩
  have g1 : u * (s.a.x - s.b.x) = x - s.b.x := by rw [hu]; exact Rat.div_mul_cancel hw'
  have g2 : v * (s.b.x - s.a.x) = x - s.a.x := by rw [hv]; exact Rat.div_mul_cancel hw
  have g3 : (u + v - 1) * (s.b.x - s.a.x) = 0 := by grind
  have g4 : u + v - 1 = 0 := by
   rcases Rat.mul_eq_zero.1 g3 with h | h
   ·exact h
   ·exact absurd h hw
  simp only [Pq.at, Pq.add, Pq.scale, Pq.sub]
  rw [<- hu, <- hv]
  have : u = 1 - v := by grind
  rw [this]; grind
/-- The reference's nearest point. -/
def nearR (s : Sq) (t : Rat) : Pq := if cmpQ t 0 < 0 then s.a else if 0 < cmpQ t 1 then s.b else s.a.at s.b t
theorem nearR_eq {s : Sq} {p : Pq} (hs : chkQ s = 0) : nearR s (paramQ s p) = nearQ s p := by
 unfold nearR nearQ
 rw [if_neg (c := chkQ s ≠ 0) (fun h => h hs)]
 obtain ⟨t, ht⟩ : ∃ t, t = paramQ s p := ⟨_, rfl⟩
 rw [<- ht]
 by_cases h1 : t < 0
 ·rw [if_pos (cmpQ_lt.2 h1), if_pos (cmpQ_le.2 (by grind))]
 ·rw [if_neg (fun h => h1 (cmpQ_lt.1 h))]
  by_cases h2 : t = 0
  ·rw [if_neg (fun h => by have := cmpQ_gt.1 h; grind), if_pos (cmpQ_le.2 (by grind)), h2]
   exact Pq.ext' (by simp only [Pq.at, Pq.add, Pq.scale, Pq.sub]; grind) (by simp only [Pq.at, Pq.add, Pq.scale, Pq.sub]; grind)
  ·rw [if_neg (c := cmpQ t 0 <= 0) (fun h => by have := cmpQ_le.1 h; grind)]
   by_cases h3 : 1 < t
   ·rw [if_pos (cmpQ_gt.2 h3), if_pos (cmpQ_ge.2 (by grind))]
   ·rw [if_neg (fun h => h3 (cmpQ_gt.1 h))]
    by_cases h4 : t = 1
    ·rw [if_pos (cmpQ_ge.2 (by grind)), h4]
     exact Pq.ext' (by simp only [Pq.at, Pq.add, Pq.scale, Pq.sub]; grind) (by simp only [Pq.at, Pq.add, Pq.scale, Pq.sub]; grind)
    ·rw [if_neg (fun h => by have := cmpQ_ge.1 h; grind)]
/-- The reference's cut of the parameters by a side: what is left, and whether anything is. -/
def cutL (lo hi room slope : Rat) : Rat := if cmpQ slope 0 = 1 /\ 0 < cmpQ (-room / slope) lo then -room / slope else lo
def cutH (lo hi room slope : Rat) : Rat := if cmpQ slope 0 = -1 /\ cmpQ (-room / slope) hi < 0 then -room / slope else hi
def cutB (lo hi room slope : Rat) : Bool := if cmpQ slope 0 = 0 then decide (0 <= cmpQ room 0) else decide (cmpQ (cutL lo hi room slope) (cutH lo hi room slope) <= 0)
def slopeQ (d : Pq) : Nat -> Rat
 | 0 => d.x
 | 1 => -d.x
 | 2 => d.y
 | _ => -d.y
def cutsQ (s : Sq) (b : Bq) : List Nat -> Rat × Rat -> Option (Rat × Rat)
 | [], lh => some lh
 | i :: l, lh => if cutB lh.1 lh.2 (sideQ b i s.a) (slopeQ (s.b.sub s.a) i) = true then cutsQ s b l (cutL lh.1 lh.2 (sideQ b i s.a) (slopeQ (s.b.sub s.a) i), cutH lh.1 lh.2 (sideQ b i s.a) (slopeQ (s.b.sub s.a) i)) else none
theorem slope_side (s : Sq) (b : Bq) (i : Nat) : sideQ b i s.b - sideQ b i s.a = slopeQ (s.b.sub s.a) i := by
 match i with
 | 0 => simp only [sideQ, slopeQ, Pq.sub]; grind
 | 1 => simp only [sideQ, slopeQ, Pq.sub]; grind
 | 2 => simp only [sideQ, slopeQ, Pq.sub]; grind
 | i + 3 => simp only [sideQ, slopeQ, Pq.sub]; grind
theorem clip1_cut (fr go : Rat) (lh : Rat × Rat) : clip1 fr go lh = if go - fr = 0 then (if cmpQ fr 0 < 0 then none else some lh) else some (cutL lh.1 lh.2 fr (go - fr), cutH lh.1 lh.2 fr (go - fr)) := by
 unfold clip1 cutL cutH
 by_cases h0 : go - fr = 0
 ·rw [if_pos (dvE_iff.2 h0), if_pos h0]
 ·rw [if_neg (fun h => h0 (dvE_iff.1 h)), if_neg h0]
  have hr := cmpQ_rng (go - fr) 0
  have hz : cmpQ (go - fr) 0 ≠ 0 := fun h => h0 (cmpQ_eq.1 h)
  rcases hr with hr | hr | hr
  ·rw [hr]
   by_cases h1 : cmpQ (-fr / (go - fr)) lh.2 < 0
   ·simp [h1]
   ·simp [h1]
  ·exact absurd hr hz
  ·rw [hr]
   by_cases h1 : 0 < cmpQ (-fr / (go - fr)) lh.1
   ·simp [h1]
   ·simp [h1]
theorem cut_mono (lo hi room slope : Rat) : lo <= cutL lo hi room slope /\ cutH lo hi room slope <= hi := by
 unfold cutL cutH
 constructor
 ·split
  ·rename_i h; have := cmpQ_gt.1 h.2; grind
  ·grind
 ·split
  ·rename_i h; have := cmpQ_lt.1 h.2; grind
  ·grind
theorem clipL_mono {s : Sq} {b : Bq} : ∀ {l : List Nat} {lh lh' : Rat × Rat}, clipL s b l lh = some lh' -> lh.1 <= lh'.1 /\ lh'.2 <= lh.2
 | [], lh, lh', h => by simp only [clipL] at h; injection h with h; subst h; exact ⟨by grind, by grind⟩
 | i :: l, lh, lh', h => by
  simp only [clipL] at h
  split at h
  ·cases h
  ·rename_i lh2 e
   have h1 := clipL_mono h
   rw [clip1_cut] at e
   split at e
   ·split at e
    ·cases e
    ·injection e with e; subst e; exact h1
   ·injection e with e
    have := cut_mono lh.1 lh.2 (sideQ b i s.a) (sideQ b i s.b - sideQ b i s.a)
    rw [<- e] at h1
    constructor
    ·have := h1.1; grind
    ·have := h1.2; grind
theorem cuts_eq (s : Sq) (b : Bq) : ∀ (l : List Nat) (lh : Rat × Rat), lh.1 <= lh.2 -> cutsQ s b l lh = match clipL s b l lh with
   | none => none
   | some lh' => if 0 < cmpQ lh'.1 lh'.2 then none else some lh'
 | [], lh, h => by
  simp only [cutsQ, clipL]
  rw [if_neg (fun c => by have := cmpQ_gt.1 c; grind)]
 | i :: l, lh, h => by
  simp only [cutsQ, clipL]
  rw [clip1_cut, slope_side]
  obtain ⟨m, hm⟩ : ∃ m, m = slopeQ (s.b.sub s.a) i := ⟨_, rfl⟩
  obtain ⟨f, hf⟩ : ∃ f, f = sideQ b i s.a := ⟨_, rfl⟩
  rw [<- hm, <- hf]
  by_cases h0 : m = 0
  ·have hc : cmpQ m 0 = 0 := cmpQ_eq.2 h0
   have e1 : cutL lh.1 lh.2 f m = lh.1 := by unfold cutL; rw [if_neg (by rw [hc]; simp)]
   have e2 : cutH lh.1 lh.2 f m = lh.2 := by unfold cutH; rw [if_neg (by rw [hc]; simp)]
   have e3 : cutB lh.1 lh.2 f m = decide (0 <= cmpQ f 0) := by unfold cutB; rw [if_pos hc]
   rw [if_pos h0, e1, e2, e3]
   by_cases hr : cmpQ f 0 < 0
   ·rw [if_pos hr, if_neg (by simp; omega)]
   ·rw [if_neg hr, if_pos (by simp; omega)]
    exact cuts_eq s b l lh h
  ·have hc : ¬ cmpQ m 0 = 0 := fun h => h0 (cmpQ_eq.1 h)
   have e3 : cutB lh.1 lh.2 f m = decide (cmpQ (cutL lh.1 lh.2 f m) (cutH lh.1 lh.2 f m) <= 0) := by unfold cutB; rw [if_neg hc]
   rw [if_neg h0, e3]
   obtain ⟨u, hu⟩ : ∃ u, u = cutL lh.1 lh.2 f m := ⟨_, rfl⟩
   obtain ⟨v, hv⟩ : ∃ v, v = cutH lh.1 lh.2 f m := ⟨_, rfl⟩
   rw [<- hu, <- hv]
   by_cases hr : cmpQ u v <= 0
   ·rw [if_pos (decide_eq_true hr)]
    exact cuts_eq s b l (u, v) (cmpQ_le.1 hr)
   ·rw [if_neg (by simpa using hr)]
    have huv : v < u := by have := @cmpQ_le u v; grind
    show none = match clipL s b l (u, v) with | none => none | some lh' => if 0 < cmpQ lh'.1 lh'.2 then none else some lh'
    cases e : clipL s b l (u, v) with
    | none => rfl
    | some lh' =>
     have hm := clipL_mono e
     have h1 : u <= lh'.1 := hm.1
     have h2 : lh'.2 <= v := hm.2
     show none = if 0 < cmpQ lh'.1 lh'.2 then none else some lh'
     rw [if_pos (cmpQ_gt.2 (by grind))]
/-- The reference's clipped segment, where there is no error. -/
def clipRR (s : Sq) (b : Bq) : Option Sq := match cutsQ s b [0, 1, 2, 3] (0, 1) with
 | none => none
 | some lh => some ⟨s.a.at s.b lh.1, s.a.at s.b lh.2⟩
theorem clipRR_eq {s : Sq} {b : Bq} (h : clipE s b = 0) : clipRR s b = clipR s b := by
 unfold clipRR clipR
 rw [if_neg (fun c => c h), cuts_eq s b [0, 1, 2, 3] (0, 1) (by decide)]
 cases e : clipL s b [0, 1, 2, 3] (0, 1) with
 | none => rfl
 | some lh =>
  show (match (if 0 < cmpQ lh.1 lh.2 then none else some lh) with | none => none | some lh => some (⟨s.a.at s.b lh.1, s.a.at s.b lh.2⟩ : Sq)) = if 0 < cmpQ lh.1 lh.2 then none else some ⟨s.a.at s.b lh.1, s.a.at s.b lh.2⟩
  by_cases hc : 0 < cmpQ lh.1 lh.2
  ·rw [if_pos hc, if_pos hc]
  ·rw [if_neg hc, if_neg hc]
end Go.Proofs.YtfdealobplcboaaGreat.Sx

set_option linter.unusedVariables false
set_option linter.unusedSimpArgs false
set_option maxRecDepth 100000
set_option maxHeartbeats 8000000
namespace Go.Proofs.YtfdealobplcboaaGreat.Sx
theorem Bd.cutL {k l : Nat} {x y u v : Rat} (hx : Bd k x) (hu : Bd l u) (hv : Bd l v) (h : 2 * l <= k) : Bd k (cutL x y u v) := by
 unfold Sx.cutL; split
 ·exact (hu.neg.div hv).mono (by omega)
 ·exact hx
theorem Bd.cutH {k l : Nat} {x y u v : Rat} (hy : Bd k y) (hu : Bd l u) (hv : Bd l v) (h : 2 * l <= k) : Bd k (cutH x y u v) := by
 unfold Sx.cutH; split
 ·exact (hu.neg.div hv).mono (by omega)
 ·exact hy
theorem yhgt_q {a : Sg} {S : Sq} {k : Nat} {b : R} {x : Rat} (ha : IsS k a S) (hb : Is k b x) (h : 20 * k + 20 <= 134217728) : Con Tryz.prog 65 [.v a.v, .v b.v] (.v (.tuple #[(cr (heightQ S x)).v, .int .i64 (heightE S x)])) := by
 obtain ⟨⟨⟨an0, au0, ad0⟩, ⟨an1, au1, ad1⟩⟩, ⟨⟨an2, au2, ad2⟩, ⟨an3, au3, ad3⟩⟩⟩ := a
 have haa : IsP k ⟨⟨an0, au0, ad0⟩, ⟨an1, au1, ad1⟩⟩ S.a := ha.a
 have hab : IsP k ⟨⟨an2, au2, ad2⟩, ⟨an3, au3, ad3⟩⟩ S.b := ha.b
 have haax : Is k ⟨an0, au0, ad0⟩ S.a.x := ha.a.x
 have haay : Is k ⟨an1, au1, ad1⟩ S.a.y := ha.a.y
 have habx : Is k ⟨an2, au2, ad2⟩ S.b.x := ha.b.x
 have haby : Is k ⟨an3, au3, ad3⟩ S.b.y := ha.b.y
 obtain ⟨bn0, bu0, bd0⟩ := b
 obtain ⟨r0, e0⟩ : ∃ r, r = cr (heightQ S x) := ⟨_, rfl⟩
 rw [<- e0]
 obtain ⟨r1, e1⟩ : ∃ r, r = heightE S x := ⟨_, rfl⟩
 rw [<- e1]
 obtain ⟨o, eo, ho, ko⟩ := yord_p ha (by omega)
 have hoa : IsP k o.a (ordS S).a := ho.a
 have hob : IsP k o.b (ordS S).b := ho.b
 obtain ⟨w, ew, hw, kw⟩ := xsub_p hob.x hoa.x (by omega)
 obtain ⟨v, ev, hv, kv⟩ := xsub_p hb hoa.x (by omega)
 obtain ⟨t, te, et, ht, ete, kt⟩ := xquo_p hv hw (by omega)
 obtain ⟨p, ep, hp, kp⟩ := yat_p hoa hob ht (by omega)
 have q12 : chkQ S ≠ 0 -> r1 = 12 /\ r0 = ⟨false, ⟨⟨[]⟩⟩, ⟨⟨[]⟩⟩⟩ := by
  intro h
  have hm : heightE S x = 12 := by rw [heightE, if_pos h]
  have hq : heightQ S x = 0 := by simp [heightQ, hm]
  exact ⟨e1.trans hm, by rw [e0, hq, cr_zero]⟩
 have fin : chkQ S = 0 -> ∀ i, hgtRE (ordS S) x = i -> r1 = i /\ (i ≠ 0 -> r0 = ⟨false, ⟨⟨[]⟩⟩, ⟨⟨[]⟩⟩⟩) /\ (i = 0 -> r0 = p.y) := by
  intro h i hi
  rw [hgtRE_eq h] at hi
  refine ⟨e1.trans hi, fun hn => ?_, fun hz => ?_⟩
  ·have hq : heightQ S x = 0 := by rw [heightQ, hi, if_neg hn]
   rw [e0, hq, cr_zero]
  ·rw [e0, ep, <- hgtRV_eq (hi.trans hz)]; rfl
 clear e0 e1
 refine Con.of ttOk mixed Tryz.func65 { ord := [(9, (.op 0 (.op 1 (.op 2 (.op 3 (.op 5 (.br 4 (.br 6 (.op 7 (.op 8 (.op 9 (.op 10 (.op 11 (.op 12 .nil)))))) (.br 10 (.op 6 (.op 7 (.op 8 (.op 9 (.op 11 (.op 12 .nil)))))) .stop)) (.br 10 (.op 4 (.op 6 (.op 7 (.op 8 (.op 9 (.op 11 (.op 12 .nil))))))) .stop))))))))] } .nil 0 (by kernel_rfl) (fun P' E hP hE => ?_)
 cbv
 refine ychk_c hP hE ha (by omega) ?_
 intro m1 em1
 cbv
 refine fork.mk ?_ ?_
 ·intro g1
  have q := q12 (by subst hE; simp [Env.std] at g1; rw [<- em1]; exact g1)
  cbv
  rw [q.1, q.2]
 ·intro g1
  have fin := fin (by subst hE; simp [Env.std] at g1; rw [<- em1]; exact g1)
  clear q12 em1 g1
  unfold hgtRE at fin
  cbv
  refine CallTo.w hP hE ko ⟨rfl, trivial⟩ ?_
  cbv
  refine CallTo.w hP hE kw ⟨rfl, rfl, trivial⟩ ?_
  cbv
  refine xsign_c hP hE hw (by omega) ?_
  intro m2 em2
  cbv
  refine fork.mk ?_ ?_
  ·intro g2
   have q := fin 24 (by rw [if_pos (by rw [<- em2]; subst hE; exact of_decide_eq_true (show decide (m2 = 0) = true from g2))])
   cbv
   rw [q.1, q.2.1 (by decide)]
  ·intro g2
   have g2 : ¬ cmpQ ((ordS S).b.x - (ordS S).a.x) 0 = 0 := by rw [<- em2]; subst hE; exact of_decide_eq_false (show decide (m2 = 0) = false from g2)
   rw [if_neg g2] at fin
   cbv
   refine xcmp_c hP hE hb hoa.x (by omega) ?_
   intro m3 em3
   cbv
   refine fork.mk ?_ ?_
   ·intro g3
    have q := fin 14 (by rw [if_pos (.inl (by rw [<- em3]; subst hE; exact of_decide_eq_true (show decide (m3 < 0) = true from g3)))])
    cbv
    rw [q.1, q.2.1 (by decide)]
   ·intro g3
    have g3 : ¬ cmpQ x (ordS S).a.x < 0 := by rw [<- em3]; subst hE; exact of_decide_eq_false (show decide (m3 < 0) = false from g3)
    cbv
    refine xcmp_c hP hE hb hob.x (by omega) ?_
    intro m4 em4
    cbv
    refine fork.mk ?_ ?_
    ·intro g4
     have q := fin 14 (by rw [if_pos (.inr (by rw [<- em4]; subst hE; exact of_decide_eq_true (show decide (m4 > 0) = true from g4)))])
     cbv
     rw [q.1, q.2.1 (by decide)]
    ·intro g4
     have g4 : ¬ 0 < cmpQ x (ordS S).b.x := by rw [<- em4]; subst hE; exact of_decide_eq_false (show decide (m4 > 0) = false from g4)
     have q := fin 0 (by rw [if_neg (fun h => h.elim g3 g4)])
     cbv
     refine DrawTo.byU [(7, .p 6 0), (8, .v (.int .i64 te))] [.cells t.av 23] ?_ ?_
     ·cbv
      repeat' first
       | exact True.intro
       | (refine Both.mk ?_ ?_ <;> cbv)
       | (refine CallTo.w hP hE kv ⟨rfl, rfl, trivial⟩ ?_; cbv)
       | (refine CallTo.w hP hE kt ⟨rfl, rfl, trivial⟩ ?_; cbv)
       | (simp only [and_self]; done)
     cbv
     refine CallTo.w hP hE kp ⟨rfl, rfl, rfl, trivial⟩ ?_
     cbv
     rw [q.1, q.2.2 rfl]
theorem yhgt_p {a : Sg} {S : Sq} {k : Nat} {b : R} {x : Rat} (ha : IsS k a S) (hb : Is k b x) (h : 20 * k + 20 <= 134217728) : ∃ (r0 : R) (r1 : Int), r0 = cr (heightQ S x) /\ Is (10 * k + 10) r0 (heightQ S x) /\ r1 = heightE S x /\ Con Tryz.prog 65 [.v a.v, .v b.v] (.v (.tuple #[r0.v, .int .i64 r1])) := ⟨_, _, rfl, (ha.bd.height hb.b).is, rfl, yhgt_q ha hb h⟩
theorem ynear_q {a : Sg} {S : Sq} {k : Nat} {b : Pt} {A : Pq} (ha : IsS k a S) (hb : IsP k b A) (h : 20 * k + 20 <= 134217728) : Con Tryz.prog 67 [.v a.v, .v b.v] (.v (.tuple #[(crP (nearQ S A)).v, .int .i64 (chkQ S)])) := by
 obtain ⟨⟨⟨an0, au0, ad0⟩, ⟨an1, au1, ad1⟩⟩, ⟨⟨an2, au2, ad2⟩, ⟨an3, au3, ad3⟩⟩⟩ := a
 have haa : IsP k ⟨⟨an0, au0, ad0⟩, ⟨an1, au1, ad1⟩⟩ S.a := ha.a
 have hab : IsP k ⟨⟨an2, au2, ad2⟩, ⟨an3, au3, ad3⟩⟩ S.b := ha.b
 have haax : Is k ⟨an0, au0, ad0⟩ S.a.x := ha.a.x
 have haay : Is k ⟨an1, au1, ad1⟩ S.a.y := ha.a.y
 have habx : Is k ⟨an2, au2, ad2⟩ S.b.x := ha.b.x
 have haby : Is k ⟨an3, au3, ad3⟩ S.b.y := ha.b.y
 obtain ⟨⟨bn0, bu0, bd0⟩, ⟨bn1, bu1, bd1⟩⟩ := b
 have hbx : Is k ⟨bn0, bu0, bd0⟩ A.x := hb.x
 have hby : Is k ⟨bn1, bu1, bd1⟩ A.y := hb.y
 obtain ⟨r0, e0⟩ : ∃ r, r = crP (nearQ S A) := ⟨_, rfl⟩
 rw [<- e0]
 obtain ⟨r1, e1⟩ : ∃ r, r = chkQ S := ⟨_, rfl⟩
 rw [<- e1]
 obtain ⟨d, ed, hd, kd⟩ := ysub_p hab haa (by omega)
 obtain ⟨w, ew, hw, kw⟩ := ysub_p hb haa (by omega)
 obtain ⟨d1, ed1, hd1, kd1⟩ := ydot_p hw hd (by omega)
 obtain ⟨d2, ed2, hd2, kd2⟩ := ydot_p hd hd (by omega)
 obtain ⟨t, te, et, ht, ete, kt⟩ := xquo_p hd1 hd2 (by omega)
 have q12 : chkQ S ≠ 0 -> r1 = 12 /\ r0 = crP Pq.zero := by
  intro h
  refine ⟨?_, by rw [e0, nearQ, if_pos h]⟩
  rw [e1]
  unfold chkQ at h ⊢
  split at h
  ·rename_i c; rw [if_pos c]
  ·exact absurd rfl h
 have fin : chkQ S = 0 -> r1 = 0 /\ r0 = crP (nearR S (((A.sub S.a).dot (S.b.sub S.a)) / ((S.b.sub S.a).dot (S.b.sub S.a)))) := by
  intro h
  exact ⟨e1.trans h, by rw [e0, <- nearR_eq h]; rfl⟩
 clear e0 e1
 refine Con.of ttOk mixed Tryz.func67 { ord := [(4, (.op 0 (.op 1 (.op 2 (.op 4 (.op 6 (.op 7 (.br 3 (.br 5 (.br 8 (.br 9 (.op 10 (.op 11 (.op 12 (.op 13 (.op 14 (.op 15 .nil)))))) (.br 13 (.op 9 (.op 10 (.op 11 (.op 12 (.op 14 (.op 15 .nil)))))) .stop)) (.br 13 (.op 8 (.op 9 (.op 10 (.op 11 (.op 12 (.op 14 (.op 15 .nil))))))) .stop)) (.br 13 (.op 5 (.op 8 (.op 9 (.op 10 (.op 11 (.op 12 (.op 14 (.op 15 .nil)))))))) .stop)) (.br 13 (.op 3 (.op 5 (.op 8 (.op 9 (.op 10 (.op 11 (.op 12 (.op 14 (.op 15 .nil))))))))) .stop))))))))), (7, [0, 1, 2, 3])] } .nil 0 (by kernel_rfl) (fun P' E hP hE => ?_)
 cbv
 refine ychk_c hP hE ha (by omega) ?_
 intro m1 em1
 cbv
 refine fork.mk ?_ ?_
 ·intro g1
  have q := q12 (by subst hE; simp [Env.std] at g1; rw [<- em1]; exact g1)
  cbv
  rw [q.1, q.2, crP_zero]
 ·intro g1
  have fin := fin (by subst hE; simp [Env.std] at g1; rw [<- em1]; exact g1)
  clear q12 em1 g1
  unfold nearR at fin
  cbv
  refine CallTo.w hP hE kd ⟨rfl, rfl, trivial⟩ ?_
  cbv
  refine DrawTo.byU [(7, .p 6 0), (8, .v (.int .i64 te))] [.cells t.av 23] ?_ ?_
  ·cbv
   repeat' first
    | exact True.intro
    | (refine Both.mk ?_ ?_ <;> cbv)
    | (refine CallTo.w hP hE kw ⟨rfl, rfl, trivial⟩ ?_; cbv)
    | (refine CallTo.w hP hE kd1 ⟨rfl, rfl, trivial⟩ ?_; cbv)
    | (refine CallTo.w hP hE kd2 ⟨rfl, rfl, trivial⟩ ?_; cbv)
    | (refine CallTo.w hP hE kt ⟨rfl, rfl, trivial⟩ ?_; cbv)
    | (simp only [and_self]; done)
  cbv
  refine xsign_c hP hE ht (by omega) ?_
  intro m2 em2
  cbv
  refine fork.mk ?_ ?_
  ·intro g2
   rw [if_pos (by rw [<- em2]; subst hE; exact of_decide_eq_true (show decide (m2 < 0) = true from g2))] at fin
   cbv
   refine ycan_c hP hE haa (by omega) ?_
   intro c ec hc hcx hcy
   cbv
   rw [fin.1, fin.2, ec]
  ·intro g2
   rw [if_neg (by rw [<- em2]; subst hE; exact of_decide_eq_false (show decide (m2 < 0) = false from g2))] at fin
   cbv
   refine xofc_c hP hE rfl (by decide) ?_
   intro o eo ho
   cbv
   refine xcmp_c hP hE ht ho (by omega) ?_
   intro m3 em3
   cbv
   refine fork.mk ?_ ?_
   ·intro g3
    rw [if_pos (by rw [show (1 : Rat) = ((1 : Int) : Rat) from rfl, <- em3]; subst hE; exact of_decide_eq_true (show decide (m3 > 0) = true from g3))] at fin
    cbv
    refine ycan_c hP hE hab (by omega) ?_
    intro c ec hc hcx hcy
    cbv
    rw [fin.1, fin.2, ec]
   ·intro g3
    rw [if_neg (by rw [show (1 : Rat) = ((1 : Int) : Rat) from rfl, <- em3]; subst hE; exact of_decide_eq_false (show decide (m3 > 0) = false from g3))] at fin
    cbv
    refine yat_c hP hE haa hab ht (by omega) ?_
    intro c ec hc hcx hcy
    cbv
    rw [fin.1, fin.2, ec]
theorem ynear_p {a : Sg} {S : Sq} {k : Nat} {b : Pt} {A : Pq} (ha : IsS k a S) (hb : IsP k b A) (h : 20 * k + 20 <= 134217728) : ∃ (r0 : Pt) (r1 : Int), r0 = crP (nearQ S A) /\ IsP (20 * k + 20) r0 (nearQ S A) /\ r1 = chkQ S /\ Con Tryz.prog 67 [.v a.v, .v b.v] (.v (.tuple #[r0.v, .int .i64 r1])) := ⟨_, _, rfl, (ha.bd.near hb.b).is, rfl, ynear_q ha hb h⟩
end Go.Proofs.YtfdealobplcboaaGreat.Sx
