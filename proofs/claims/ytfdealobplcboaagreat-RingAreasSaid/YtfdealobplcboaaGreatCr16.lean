/- Part 16 of what the statement needs: an executor of Go texts, arithmetic, and contracts of the functions that are called. -/
import Derived.Test.YtfdealobplcboaaGreatCr11
import Derived.Test.YtfdealobplcboaaGreatCr15
set_option linter.unusedVariables false
set_option linter.unusedSimpArgs false
set_option maxHeartbeats 4000000
namespace Go.Proofs.YtfdealobplcboaaGreat.Sx
structure DG (N D W Y top u2 v1 v2 p low vl : Int) : Prop where
 p0 : 0 < p
 l0 : 0 <= low
 l1 : low < p
 w0 : 0 <= vl
 w1 : vl < p
 eN : N = W * p + low
 eD : D = Y * p + vl
 eW : W = top * 4294967296 + u2
 eY : Y = v1 * 4294967296 + v2
 u0 : 0 <= u2
 u1 : u2 < 4294967296
 v20 : 0 <= v2
 v21 : v2 < 4294967296
 v10 : 1 <= v1
 v11 : v1 < 4294967296
 t0 : 0 <= top
 t1 : top < 18446744073709551616
 lt : N < 4294967296 * D
section
variable {N D W Y top u2 v1 v2 p low vl : Int}
theorem DG.D0 (h : DG N D W Y top u2 v1 v2 p low vl) : 0 < D /\ 4294967296 * p <= D := by
 have h1 := h.p0
 have h2 := h.w0
 have h3 : 4294967296 <= Y := by have := h.eY; have := h.v10; have := h.v20; omega
 have h4 : 4294967296 * p <= Y * p := Int.mul_le_mul_of_nonneg_right h3 (by omega)
 have h5 := h.eD
 omega
theorem DG.q (h : DG N D W Y top u2 v1 v2 p low vl) : 0 <= N / D /\ N / D < 4294967296 /\ N / D * Y <= W := by
 have hD := h.D0.1
 have hp := h.p0
 have hW0 : 0 <= W := by have := h.eW; have := h.t0; have := h.u0; omega
 have hN0 : 0 <= N := by
  have := h.eN; have := h.l0
  have : 0 <= W * p := Int.mul_nonneg hW0 (by omega)
  omega
 have q0 : 0 <= N / D := Int.ediv_nonneg hN0 (by omega)
 refine ⟨q0, Int.ediv_lt_of_lt_mul hD h.lt, ?_⟩
 have h1 : N / D * D <= N := Int.ediv_mul_le _ (by omega)
 generalize N / D = q at *
 have h2 : q * Y * p <= q * D := by
  rw [h.eD, Int.mul_add, Int.mul_assoc]
  have := Int.mul_nonneg q0 h.w0
  omega
 have h3 : q * Y * p < (W + 1) * p := by
  have := h.eN; have := h.l1
  have e : (W + 1) * p = W * p + p := by rw [Int.add_mul, Int.one_mul]
  omega
 have h4 := Int.lt_of_mul_lt_mul_right h3 (by omega)
 omega
theorem DG.first (h : DG N D W Y top u2 v1 v2 p low vl) : N / D <= top / v1 /\ 0 <= top / v1 /\ top / v1 < 18446744073709551616 /\ top / v1 * v1 + top % v1 = top /\ 0 <= top % v1 := by
 obtain ⟨q0, q1, q2⟩ := h.q
 have h1 := h.v10
 have h2 := h.v20
 have ht := h.t0
 have ht1 := h.t1
 generalize N / D = q at *
 refine ⟨?_, Int.ediv_nonneg ht (by omega), ?_, ?_, Int.emod_nonneg _ (by omega)⟩
 ·refine Int.le_ediv_of_mul_le (by omega) ?_
  rw [h.eY, Int.mul_add] at q2
  have := Int.mul_nonneg q0 h2
  have e : q * (v1 * 4294967296) = q * v1 * 4294967296 := by rw [Int.mul_assoc]
  have := h.eW
  have := h.u1
  omega
 ·have := Int.ediv_le_self v1 ht
  exact Int.lt_of_le_of_lt this ht1
 ·rw [Int.mul_comm]
  exact Int.mul_ediv_add_emod _ _
theorem DG.down (h : DG N D W Y top u2 v1 v2 p low vl) {g r : Int} (hs : g * v1 + r = top) (hq : N / D <= g) (hc : 4294967296 <= g \/ r * 4294967296 + u2 < g * v2) : N / D <= g - 1 := by
 obtain ⟨q0, q1, q2⟩ := h.q
 rcases hc with c | c
 ·omega
 ·have hY : 0 < Y := by have := h.eY; have := h.v10; have := h.v20; omega
  have h1 : W < g * Y := by
   rw [h.eW, h.eY, Int.mul_add, <- hs]
   have e : g * (v1 * 4294967296) = g * v1 * 4294967296 := by rw [Int.mul_assoc]
   omega
  generalize N / D = q at *
  have h2 : q * Y < g * Y := by omega
  have := Int.lt_of_mul_lt_mul_right h2 (by omega)
  omega
theorem DG.stop (h : DG N D W Y top u2 v1 v2 p low vl) {g r : Int} (hs : g * v1 + r = top) (g0 : 0 <= g) (g1 : g < 4294967296) (hc : 4294967296 <= r \/ g * v2 <= r * 4294967296 + u2) : g <= N / D + 1 := by
 have hp := h.p0
 have hgv : g * v2 <= r * 4294967296 + u2 := by
  rcases hc with c | c
  ·have h1 : g * v2 <= 4294967295 * 4294967295 := Int.mul_le_mul (by omega) (by have := h.v21; omega) h.v20 (by decide)
   have := h.u0
   omega
  ·exact c
 have h1 : g * Y <= W := by
  rw [h.eW, h.eY, Int.mul_add, <- hs]
  have e : g * (v1 * 4294967296) = g * v1 * 4294967296 := by rw [Int.mul_assoc]
  omega
 have h2 : g * Y * p <= W * p := Int.mul_le_mul_of_nonneg_right h1 (by omega)
 have h3 : g * vl <= 4294967295 * vl := Int.mul_le_mul_of_nonneg_right (by omega) h.w0
 have h4 : (g - 1) * D <= N := by
  have e : (g - 1) * D = g * Y * p + g * vl - D := by rw [Int.sub_mul, Int.one_mul, h.eD, Int.mul_add, Int.mul_assoc]
  have := h.eN; have := h.l0; have := h.D0.2; have := h.w1
  omega
 have := Int.le_ediv_of_mul_le h.D0.1 h4
 omega
end
/-- Where a digit is to be found. -/
structure DS (vs us : List Int) (i : Int) : Prop where
 vok : Ok32 vs
 uok : Ok32 us
 k2 : 2 <= vs.length
 top : 4294967296 ^ (vs.length - 1) <= val vs
 i0 : 0 <= i
 len : i.toNat + vs.length < us.length
 lt : val us < 4294967296 * (val vs * 4294967296 ^ i.toNat)
theorem val_drop' (xs : List Int) (i : Nat) : val (xs.drop i) = xs.getD i 0 + 4294967296 * val (xs.drop (i + 1)) := by
 by_cases h : i < xs.length
 ·rw [List.drop_eq_getElem_cons h, val, List.getD_eq_getElem?_getD, List.getElem?_eq_getElem h]; rfl
 ·rw [List.drop_eq_nil_of_le (by omega), List.drop_eq_nil_of_le (by omega), getD_ge (by omega)]; rfl
theorem val_cut (xs : List Int) (i : Nat) : val xs = val (xs.take i) + 4294967296 ^ i * val (xs.drop i) := by
 by_cases h : i <= xs.length
 ·exact val_split h
 ·rw [List.take_of_length_le (by omega), List.drop_eq_nil_of_le (by omega)]; simp [val]
theorem val_take_lt {xs : List Int} (h : Ok32 xs) (i : Nat) : 0 <= val (xs.take i) /\ val (xs.take i) < 4294967296 ^ i := by
 refine ⟨val_nonneg (h.take i), ?_⟩
 have h1 := val_lt (h.take i)
 have : (4294967296 : Int) ^ (xs.take i).length <= 4294967296 ^ i := pow_mono32 (by rw [List.length_take]; omega)
 omega
theorem drop_zero {xs : List Int} (h : Ok32 xs) {i : Nat} (hv : val xs < 4294967296 ^ i) : val (xs.drop i) = 0 := by
 have h1 := val_cut xs i
 have h2 := val_take_lt h i
 have h3 := val_nonneg (h.drop i)
 have hp := pow_pos32 i
 refine Decidable.byContradiction fun c => ?_
 have h4 : 4294967296 ^ i * 1 <= 4294967296 ^ i * val (xs.drop i) := Int.mul_le_mul_of_nonneg_left (by omega) (by omega)
 omega
theorem get_zero {xs : List Int} (h : Ok32 xs) {i : Nat} (hv : val xs < 4294967296 ^ i) {j : Nat} (hj : i <= j) : xs.getD j 0 = 0 := by
 have h1 : val xs < 4294967296 ^ j * 1 := by
  have : (4294967296 : Int) ^ i <= 4294967296 ^ j := pow_mono32 hj
  omega
 have := get_lt h h1
 have := (h.get j).1
 omega
/-- The parts of the numbers that a digit depends on. -/
theorem DS.dg {vs us : List Int} {i : Int} (h : DS vs us i) : ∃ W Y p low vl, DG (val us) (val vs * 4294967296 ^ i.toNat) W Y (us.getD (i.toNat + vs.length) 0 * 4294967296 + us.getD (i.toNat + vs.length - 1) 0) (us.getD (i.toNat + vs.length - 2) 0) (vs.getD (vs.length - 1) 0) (vs.getD (vs.length - 2) 0) p low vl /\ val us < 4294967296 ^ (i.toNat + vs.length + 1) := by
 have k2 := h.k2
 obtain ⟨k, hk⟩ : ∃ k, vs.length = k + 2 := ⟨vs.length - 2, by omega⟩
 have hvl := val_lt h.vok
 have hN : val us < 4294967296 ^ (i.toNat + vs.length + 1) := by
  have h1 : val vs * 4294967296 ^ i.toNat <= 4294967296 ^ vs.length * 4294967296 ^ i.toNat := Int.mul_le_mul_of_nonneg_right (by omega) (Int.le_of_lt (pow_pos32 _))
  have h2 : (4294967296 : Int) ^ (i.toNat + vs.length + 1) = 4294967296 * (4294967296 ^ vs.length * 4294967296 ^ i.toNat) := by
   rw [Int.pow_succ, Int.pow_add]; grind
  have := h.lt
  rw [h2]
  omega
 have g0 := h.uok.get (i.toNat + vs.length)
 have g1 := h.uok.get (i.toNat + vs.length - 1)
 have g2 := h.uok.get (i.toNat + vs.length - 2)
 have f1 := h.vok.get (vs.length - 1)
 have f2 := h.vok.get (vs.length - 2)
 have hu := val_cut us (i.toNat + k)
 have hz := drop_zero h.uok hN
 have e1 := val_drop' us (i.toNat + k)
 have e2 := val_drop' us (i.toNat + k + 1)
 have e3 := val_drop' us (i.toNat + k + 2)
 have x0 : i.toNat + vs.length = i.toNat + k + 2 := by omega
 have x1 : i.toNat + vs.length - 1 = i.toNat + k + 1 := by omega
 have x2 : i.toNat + vs.length - 2 = i.toNat + k := by omega
 have y1 : vs.length - 1 = k + 1 := by omega
 have y2 : vs.length - 2 = k := by omega
 have hv := val_cut vs k
 have d1 := val_drop' vs k
 have d2 := val_drop' vs (k + 1)
 have d3 : vs.drop (k + 1 + 1) = [] := List.drop_eq_nil_of_le (by omega)
 rw [d3] at d2
 have d4 : val ([] : List Int) = 0 := rfl
 rw [d4] at d2
 have lu := val_take_lt h.uok (i.toNat + k)
 have lv := val_take_lt h.vok k
 have ht := h.top
 have hlt := h.lt
 rw [x0] at hz g0 hN ⊢
 rw [x0] at x1 x2 g1 g2
 have x3 : i.toNat + k + 2 - 1 = i.toNat + k + 1 := by omega
 have x4 : i.toNat + k + 2 - 2 = i.toNat + k := by omega
 rw [x3] at g1 ⊢
 rw [x4] at g2 ⊢
 rw [y1] at f1 ht ⊢
 rw [y2] at f2 ⊢
 rw [hz] at e3
 have hpp : (4294967296 : Int) ^ (i.toNat + k) = 4294967296 ^ k * 4294967296 ^ i.toNat := by rw [Int.pow_add, Int.mul_comm]
 have pi := pow_pos32 i.toNat
 have pk := pow_pos32 k
 have hvv : val vs = val (vs.take k) + 4294967296 ^ k * (vs.getD k 0 + 4294967296 * vs.getD (k + 1) 0) := by rw [hv, d1, d2]; grind
 refine ⟨(us.getD (i.toNat + k + 2) 0 * 4294967296 + us.getD (i.toNat + k + 1) 0) * 4294967296 + us.getD (i.toNat + k) 0, vs.getD (k + 1) 0 * 4294967296 + vs.getD k 0, 4294967296 ^ (i.toNat + k), val (us.take (i.toNat + k)), val (vs.take k) * 4294967296 ^ i.toNat, ⟨pow_pos32 _, lu.1, lu.2, Int.mul_nonneg lv.1 (by omega), ?_, ?_, ?_, rfl, rfl, g2.1, g2.2, f2.1, f2.2, ?_, f1.2, by omega, by omega, hlt⟩, hN⟩
 ·rw [hpp]
  exact Int.mul_lt_mul_of_pos_right lv.2 pi
 ·rw [hu, e1, e2, e3]
  generalize (4294967296 : Int) ^ (i.toNat + k) = p
  grind
 ·rw [hvv, hpp]
  generalize (4294967296 : Int) ^ i.toNat = p
  generalize (4294967296 : Int) ^ k = p'
  grind
 ·refine Decidable.byContradiction fun c => ?_
  have c : vs.getD (k + 1) 0 = 0 := by omega
  rw [c] at hvv
  rw [Int.pow_succ] at ht
  have h1 : 4294967296 ^ k * (vs.getD k 0 + 4294967296 * 0) <= 4294967296 ^ k * 4294967295 := Int.mul_le_mul_of_nonneg_left (by omega) (by omega)
  omega
end Go.Proofs.YtfdealobplcboaaGreat.Sx

set_option linter.unusedVariables false
set_option linter.unusedSimpArgs false
set_option maxHeartbeats 4000000
namespace Go.Proofs.YtfdealobplcboaaGreat.Sx
theorem drop_zeros (xs : List Int) : ∀ (k n : Nat), xs.length <= n + k -> (∀ m, n <= m -> xs.getD m 0 = 0) -> val (xs.drop n) = 0
 | 0, n, hl, _ => by rw [List.drop_eq_nil_of_le (by omega)]; rfl
 | k + 1, n, hl, hz => by
  rw [val_drop', hz n (Nat.le_refl _), drop_zeros xs k (n + 1) (by omega) (fun m hm => hz m (by omega))]; rfl
theorem lt_of_zeros {xs : List Int} (h : Ok32 xs) {n : Nat} (hz : ∀ m, n <= m -> xs.getD m 0 = 0) : val xs < 4294967296 ^ n := by
 have h1 := val_cut xs n
 rw [drop_zeros xs xs.length n (by omega) hz] at h1
 have := val_take_lt h n
 omega
structure BInv (vs us : List Int) (i g j c b : Int) (o : List Int) : Prop where
 j0 : 0 <= j
 j1 : j <= vs.length
 len : o.length = us.length
 ok : Ok32 o
 c0 : 0 <= c
 c1 : c < 4294967296
 b0 : 0 <= b
 b1 : b <= 1
 keep : ∀ m, i.toNat + j.toNat <= m -> o.getD m 0 = us.getD m 0
 v : val o = val us - g * val (vs.take j.toNat) * 4294967296 ^ i.toNat + (c + b) * 4294967296 ^ (i.toNat + j.toNat)
theorem BInv.zero {vs us : List Int} {i g j : Int} (h : DS vs us i) (hj : j = 0) : BInv vs us i g j j j us := by
 subst hj
 exact ⟨by omega, by omega, rfl, h.uok, by omega, by omega, by omega, by omega, fun _ _ => rfl, by simp [val]⟩
theorem BInv.step {vs us : List Int} {i g j c b t d b' : Int} {o : List Int} (hs : DS vs us i) (g0 : 0 <= g) (g1 : g < 4294967296) (h : BInv vs us i g j c b o) (hj : j < vs.length) (ht : t = c + g * vs.getD j.toNat 0) (hd : d = (o.getD (i + j).toNat 0 - t % 4294967296 - b) % 4294967296) (hb : b' = - ((o.getD (i + j).toNat 0 - t % 4294967296 - b) / 4294967296)) :
  0 <= t /\ t < 18446744073709551616 /\ BInv vs us i g (j + 1) (t / 4294967296) b' (o.set (i + j).toNat d) := by
 have hi0 := hs.i0
 have hj0 := h.j0
 have hl := hs.len
 have f := hs.vok.get j.toNat
 have hp := prod_lt g0 g1 f.1 f.2
 have ho := h.ok.get (i + j).toNat
 have hc0 := h.c0
 have hc1 := h.c1
 have hb0 := h.b0
 have hb1 := h.b1
 have e : (j + 1).toNat = j.toNat + 1 := by omega
 have e2 : (i + j).toNat = i.toNat + j.toNat := by omega
 have hlt : (i + j).toNat < o.length := by rw [h.len]; omega
 have t0 : 0 <= t := by omega
 have t1 : t < 18446744073709551616 := by omega
 refine ⟨t0, t1, ⟨by omega, by omega, by rw [List.length_set, h.len], h.ok.set (by omega) (by omega) _, by omega, by omega, by omega, by omega, fun m hm => ?_, ?_⟩⟩
 ·rw [getD_set hlt, if_neg (by omega)]
  exact h.keep m (by omega)
 ·have hv := h.v
  rw [val_set _ _ _ hlt, e, val_take_succ, <- Nat.add_assoc, Int.pow_succ, hv]
  rw [e2] at hd hb ⊢
  have hpw : (4294967296 : Int) ^ (i.toNat + j.toNat) = 4294967296 ^ i.toNat * 4294967296 ^ j.toNat := Int.pow_add _ _ _
  have hd2 : d = o.getD (i.toNat + j.toNat) 0 - t % 4294967296 - b + 4294967296 * b' := by omega
  have ht2 : c + g * vs.getD j.toNat 0 = t % 4294967296 + 4294967296 * (t / 4294967296) := by omega
  rw [hpw, hd2]
  clear hd hb hd2 ht hv hp
  generalize t / 4294967296 = q at *
  generalize t % 4294967296 = m at *
  generalize o.getD (i.toNat + j.toNat) 0 = u at *
  generalize vs.getD j.toNat 0 = y at *
  generalize (4294967296 : Int) ^ i.toNat = p at *
  generalize (4294967296 : Int) ^ j.toNat = p' at *
  generalize val (vs.take j.toNat) = w at *
  have : m = c + g * y - 4294967296 * q := by omega
  rw [this]
  grind
theorem BInv.last {vs us : List Int} {i g j c b d b' : Int} {o : List Int} (hs : DS vs us i) (h : BInv vs us i g j c b o) (hj : j = vs.length) (hd : d = (o.getD (i + vs.length).toNat 0 - c - b) % 4294967296) (hb : b' = - ((o.getD (i + vs.length).toNat 0 - c - b) / 4294967296)) :
  0 <= b' /\ b' <= 1 /\ (o.set (i + vs.length).toNat d).length = us.length /\ Ok32 (o.set (i + vs.length).toNat d) /\ (∀ m, i.toNat + vs.length + 1 <= m -> (o.set (i + vs.length).toNat d).getD m 0 = 0) /\ val (o.set (i + vs.length).toNat d) = val us - g * (val vs * 4294967296 ^ i.toNat) + b' * 4294967296 ^ (i.toNat + vs.length + 1) := by
 have hi0 := hs.i0
 have hl := hs.len
 obtain ⟨W, Y, p, low, vl, hg, hN⟩ := hs.dg
 have ho := h.ok.get (i + vs.length).toNat
 have hc0 := h.c0
 have hc1 := h.c1
 have hb0 := h.b0
 have hb1 := h.b1
 have e2 : (i + vs.length).toNat = i.toNat + vs.length := by omega
 have e3 : j.toNat = vs.length := by omega
 have hlt : (i + vs.length).toNat < o.length := by rw [h.len]; omega
 refine ⟨by omega, by omega, by rw [List.length_set, h.len], h.ok.set (by omega) (by omega) _, fun m hm => ?_, ?_⟩
 ·rw [getD_set hlt, if_neg (by omega), h.keep m (by omega)]
  exact get_zero hs.uok hN (by omega)
 ·have hv := h.v
  rw [e3, List.take_of_length_le (by omega)] at hv
  rw [val_set _ _ _ hlt, Int.pow_succ, hv]
  rw [e2] at hd hb ⊢
  have hd2 : d = o.getD (i.toNat + vs.length) 0 - c - b + 4294967296 * b' := by omega
  rw [hd2]
  clear hd hb hd2 hv hg hN
  generalize o.getD (i.toNat + vs.length) 0 = u at *
  generalize (4294967296 : Int) ^ i.toNat = p at *
  generalize (4294967296 : Int) ^ (i.toNat + vs.length) = p' at *
  grind
structure AInv (vs us : List Int) (i j s : Int) (o : List Int) : Prop where
 j0 : 0 <= j
 j1 : j <= vs.length
 len : o.length = us.length
 ok : Ok32 o
 s0 : 0 <= s
 s1 : s <= 1
 keep : ∀ m, i.toNat + j.toNat <= m -> o.getD m 0 = us.getD m 0
 v : val o = val us + val (vs.take j.toNat) * 4294967296 ^ i.toNat - s * 4294967296 ^ (i.toNat + j.toNat)
theorem AInv.zero {vs us : List Int} {i j : Int} (h : Ok32 us) (hj : j = 0) : AInv vs us i j j us := by
 subst hj
 exact ⟨by omega, by omega, rfl, h, by omega, by omega, fun _ _ => rfl, by simp [val]⟩
theorem AInv.step {vs us : List Int} {i j s d s' : Int} {o : List Int} (hv' : Ok32 vs) (hi0 : 0 <= i) (hl : i.toNat + vs.length < us.length) (h : AInv vs us i j s o) (hj : j < vs.length) (hd : d = (o.getD (i + j).toNat 0 + vs.getD j.toNat 0 + s) % 4294967296) (hs' : s' = (o.getD (i + j).toNat 0 + vs.getD j.toNat 0 + s) / 4294967296) :
  AInv vs us i (j + 1) s' (o.set (i + j).toNat d) := by
 have hj0 := h.j0
 have f := hv'.get j.toNat
 have ho := h.ok.get (i + j).toNat
 have hs0 := h.s0
 have hs1 := h.s1
 have e : (j + 1).toNat = j.toNat + 1 := by omega
 have e2 : (i + j).toNat = i.toNat + j.toNat := by omega
 have hlt : (i + j).toNat < o.length := by rw [h.len]; omega
 refine ⟨by omega, by omega, by rw [List.length_set, h.len], h.ok.set (by omega) (by omega) _, by omega, by omega, fun m hm => ?_, ?_⟩
 ·rw [getD_set hlt, if_neg (by omega)]
  exact h.keep m (by omega)
 ·have hv := h.v
  rw [val_set _ _ _ hlt, e, val_take_succ, <- Nat.add_assoc, Int.pow_succ, hv]
  rw [e2] at hd hs' ⊢
  have hpw : (4294967296 : Int) ^ (i.toNat + j.toNat) = 4294967296 ^ i.toNat * 4294967296 ^ j.toNat := Int.pow_add _ _ _
  have hd2 : d = o.getD (i.toNat + j.toNat) 0 + vs.getD j.toNat 0 + s - 4294967296 * s' := by omega
  rw [hpw, hd2]
  clear hd hs' hd2 hv
  generalize o.getD (i.toNat + j.toNat) 0 = u at *
  generalize vs.getD j.toNat 0 = y at *
  generalize (4294967296 : Int) ^ i.toNat = p at *
  generalize (4294967296 : Int) ^ j.toNat = p' at *
  generalize val (vs.take j.toNat) = w at *
  grind
/-- What digit brings about: the quotient, and the rest. -/
structure DEnd (vs us : List Int) (i g : Int) (o : List Int) : Prop where
 len : o.length = us.length
 ok : Ok32 o
 eg : g = val us / (val vs * 4294967296 ^ i.toNat)
 v : val o = val us - g * (val vs * 4294967296 ^ i.toNat)
theorem AInv.last {vs us0 us : List Int} {i g j s d : Int} {o : List Int} (hs : DS vs us0 i) (hlen : us.length = us0.length) (g1 : g <= val us0 / (val vs * 4294967296 ^ i.toNat) + 1)
  (hz : ∀ m, i.toNat + vs.length + 1 <= m -> us.getD m 0 = 0) (hok : Ok32 us) (hv0 : val us = val us0 - g * (val vs * 4294967296 ^ i.toNat) + 4294967296 ^ (i.toNat + vs.length + 1))
  (h : AInv vs us i j s o) (hj : j = vs.length) (hd : d = (o.getD (i + vs.length).toNat 0 + s) % 4294967296) : DEnd vs us0 i (g - 1) (o.set (i + vs.length).toNat d) := by
 have hi0 := hs.i0
 have hl := hs.len
 have ho := h.ok.get (i + vs.length).toNat
 have hs0 := h.s0
 have hs1 := h.s1
 obtain ⟨W, Y, p, low, vl, hg, hN⟩ := hs.dg
 have hD := hg.D0.1
 have e2 : (i + vs.length).toNat = i.toNat + vs.length := by omega
 have e3 : j.toNat = vs.length := by omega
 have hlt : (i + vs.length).toNat < o.length := by rw [h.len]; omega
 have hok' := h.ok.set (x := d) (by omega) (by omega) (i + vs.length).toNat
 have hz' : ∀ m, i.toNat + vs.length + 1 <= m -> (o.set (i + vs.length).toNat d).getD m 0 = 0 := fun m hm => by
  rw [getD_set hlt, if_neg (by omega), h.keep m (by omega)]
  exact hz m hm
 have hlt2 := lt_of_zeros hok' hz'
 have hge := val_nonneg hok'
 have hus := lt_of_zeros hok hz
 have hv : val (o.set (i + vs.length).toNat d) = val us0 - (g - 1) * (val vs * 4294967296 ^ i.toNat) + (1 - (o.getD (i + vs.length).toNat 0 + s) / 4294967296) * 4294967296 ^ (i.toNat + vs.length + 1) := by
  have hv := h.v
  rw [e3, List.take_of_length_le (by omega)] at hv
  rw [val_set _ _ _ hlt, hv, hv0, e2]
  rw [e2] at hd
  have hd2 : d = o.getD (i.toNat + vs.length) 0 + s - 4294967296 * ((o.getD (i.toNat + vs.length) 0 + s) / 4294967296) := by omega
  rw [hd2, Int.pow_succ]
  generalize (o.getD (i.toNat + vs.length) 0 + s) / 4294967296 = w
  generalize o.getD (i.toNat + vs.length) 0 = u
  generalize (4294967296 : Int) ^ i.toNat = p
  generalize (4294967296 : Int) ^ (i.toNat + vs.length) = p'
  grind
 obtain ⟨w, hw⟩ : ∃ w, w = (o.getD (i + vs.length).toNat 0 + s) / 4294967296 := ⟨_, rfl⟩
 have hw1 : w <= 1 := by omega
 have hw0 : 0 <= w := by omega
 rw [<- hw] at hv
 have hgq : g = val us0 / (val vs * 4294967296 ^ i.toNat) + 1 := by
  refine Int.le_antisymm g1 ?_
  have h1 : val us0 < g * (val vs * 4294967296 ^ i.toNat) := by omega
  exact Int.ediv_lt_of_lt_mul hD h1
 have hq : 0 <= val us0 - (g - 1) * (val vs * 4294967296 ^ i.toNat) := by
  have h1 := Int.ediv_mul_le (val us0) (show val vs * 4294967296 ^ i.toNat ≠ 0 by omega)
  have h2 : g - 1 = val us0 / (val vs * 4294967296 ^ i.toNat) := by omega
  rw [h2]; omega
 have hw' : w = 1 := by
  refine Decidable.byContradiction fun c => ?_
  have c : w = 0 := by omega
  rw [c] at hv
  omega
 rw [hw'] at hv
 exact ⟨by rw [List.length_set, h.len, hlen], hok', by omega, by rw [hv]; omega⟩
theorem BInv.done {vs us : List Int} {i g : Int} {o : List Int} (hs : DS vs us i) (hg : val us / (val vs * 4294967296 ^ i.toNat) <= g) (h1 : o.length = us.length) (h2 : Ok32 o) (h3 : val o = val us - g * (val vs * 4294967296 ^ i.toNat) + 0 * 4294967296 ^ (i.toNat + vs.length + 1)) : DEnd vs us i g o := by
 obtain ⟨W, Y, p, low, vl, hdg, hN⟩ := hs.dg
 have hD := hdg.D0.1
 have h4 := val_nonneg h2
 have h5 : val o = val us - g * (val vs * 4294967296 ^ i.toNat) := by omega
 refine ⟨h1, h2, Int.le_antisymm (Int.le_ediv_of_mul_le hD (by omega)) hg, h5⟩
/-- The quotient so far. -/
structure QInv (a V : Int) (vs : List Int) (m L : Nat) (i : Int) (us qs : List Int) : Prop where
 i0 : -1 <= i
 i1 : i < m
 ulen : us.length = L
 uok : Ok32 us
 ult : val us < V * 4294967296 ^ (i + 1).toNat
 qlen : qs.length = m
 qok : Ok32 qs
 qz : ∀ j : Nat, (j : Int) <= i -> qs.getD j 0 = 0
 v : a = val us + val qs * V
theorem QInv.ds {a V : Int} {vs : List Int} {m L : Nat} {i : Int} {us qs : List Int} (h : QInv a V vs m L i us qs) (hi : 0 <= i) (hv : Ok32 vs) (hk : 2 <= vs.length) (ht : 4294967296 ^ (vs.length - 1) <= val vs) (hV : V = val vs) (hL : m + vs.length = L) : DS vs us i := by
 have h1 := h.i1
 have h2 := h.ulen
 have h3 := h.ult
 have e : (i + 1).toNat = i.toNat + 1 := by omega
 rw [e, Int.pow_succ, hV] at h3
 exact ⟨hv, h.uok, hk, ht, hi, by omega, by
  have : val vs * (4294967296 ^ i.toNat * 4294967296) = 4294967296 * (val vs * 4294967296 ^ i.toNat) := by
   generalize (4294967296 : Int) ^ i.toNat = p
   grind
  omega⟩
theorem QInv.step {a V : Int} {vs : List Int} {m L : Nat} {i g : Int} {us qs o : List Int} (h : QInv a V vs m L i us qs) (hi : 0 <= i) (hs : DS vs us i) (hV : V = val vs) (hd : DEnd vs us i g o) : QInv a V vs m L (i - 1) o (qs.set i.toNat g) := by
 obtain ⟨W, Y, p, low, vl, hdg, hN⟩ := hs.dg
 have hD := hdg.D0.1
 have hq := hdg.q
 have h1 := h.i1
 have hg := hd.eg
 have e : (i - 1 + 1).toNat = i.toNat := by omega
 have hlt : i.toNat < qs.length := by rw [h.qlen]; omega
 refine ⟨by omega, by omega, by rw [hd.len, h.ulen], hd.ok, ?_, by rw [List.length_set, h.qlen], h.qok.set (by omega) (by omega) _, fun j hj => ?_, ?_⟩
 ·rw [e, hd.v, hg, hV]
  have := Int.lt_ediv_add_one_mul_self (val us) hD
  rw [Int.add_mul, Int.one_mul] at this
  omega
 ·rw [getD_set hlt, if_neg (by omega)]
  exact h.qz j (by omega)
 ·rw [val_set _ _ _ hlt, h.qz _ (by omega), h.v, hd.v, hV]
  generalize (4294967296 : Int) ^ i.toNat = p
  grind
end Go.Proofs.YtfdealobplcboaaGreat.Sx

set_option linter.unusedVariables false
set_option linter.unusedSimpArgs false
namespace Go.Proofs.YtfdealobplcboaaGreat.Sx
theorem LoopTo.invQ {ι κ : Type} {P : Program} {m : Nat} {c : Unit -> Code} {B : Unit -> (X -> St -> Prop) -> St -> Prop} {K : X -> St -> Prop} {s : St} (I : ι -> St) (J : κ -> St) (p : ι -> Prop) (q : κ -> Prop) (μ : ι -> Nat) (i0 : ι) (r0 : List Nat) (n : Nat) (hp : p i0) (h0 : St.le m r0 s (I i0))
  (hk : ∀ k, q k -> K (.e n) (J k))
  (hb : ∀ i, p i -> B () (fun x s' => match x with
   | .n => ∃ j r, p j /\ μ j < μ i /\ St.le m r s' (I j)
   | .e n' => n' = n /\ ∃ k r, q k /\ St.le m r s' (J k)
   | .r => K .r s'
   | .g l => K (.g l) s') (I i)) : LoopTo P m c B K s := by
 refine ⟨fun ro hB w0 β0 β M a w ht hw hx => ?_⟩
 refine wpIn_mono ((LoopTo.inv (K := fun x s' => match x with
   | .n => K .n s'
   | .e n' => n' = n /\ ∃ k r, q k /\ St.le m r s' (J k)
   | .r => K .r s'
   | .g l => K (.g l) s') I p μ i0 r0 hp h0 (fun i hi => by
    have h := hb i hi
    exact Eq.mp (congrArg (fun F => B () F (I i)) (funext fun x => funext fun s' => by cases x <;> rfl)) h)).out ro hB w0 β0 β M a w ht hw hx) (fun e a w hq => ?_)
 cases e with
 | normal => exact hq
 | ret => exact hq
 | exit j =>
  obtain ⟨s', β', M', h1, h2, h3, rfl, k, r, h4, h5⟩ := hq
  obtain ⟨q1, q2, q3⟩ := St.le_rel h5 h1 h2 h3
  exact ⟨J k, _, M', q1, q2, q3, hk k h4⟩
 | _ => exact hq
/-- As LoopTo.by; the round may also end with the exit n, in a state of the second sort. -/
theorem LoopTo.byQ {ι κ : Type} {P : Program} {m : Nat} {c : Unit -> Code} {B : Unit -> (X -> St -> Prop) -> St -> Prop} {K : X -> St -> Prop} {s : St} (chg : ι -> List (Nat × AV)) (hc : ι -> List (Nat × Blk)) (chq : κ -> List (Nat × AV)) (hq : κ -> List (Nat × Blk)) (p : ι -> Prop) (q : κ -> Prop) (μ : ι -> Nat) (i0 : ι) (r0 : List Nat) (n : Nat) (hp : p i0) (h0 : St.le m r0 s (s.upd (c ()) (chg i0) (hc i0)))
  (hb : ∀ i, p i -> B () (fun x s' => match x with
   | .n => ∃ j r, p j /\ μ j < μ i /\ St.le m r s' (s.upd (c ()) (chg j) (hc j))
   | .e n' => n' = n /\ ∃ k r, q k /\ St.le m r s' (s.upd (c ()) (chq k) (hq k))
   | .r => K .r s'
   | .g l => K (.g l) s') (s.upd (c ()) (chg i) (hc i)))
  (hk : ∀ k, q k -> K (.e n) (s.upd (c ()) (chq k) (hq k))) : LoopTo P m c B K s :=
 LoopTo.invQ (fun i => s.upd (c ()) (chg i) (hc i)) (fun k => s.upd (c ()) (chq k) (hq k)) p q μ i0 r0 n hp h0 hk hb
/-- The rest behind a label, answered by an invariant that holds at each jump. -/
theorem ScopeTo.inv {ι : Type} {P : Program} {m l : Nat} {c : Unit -> Code} {B : Unit -> (X -> St -> Prop) -> St -> Prop} {K : X -> St -> Prop} {s : St} (I : ι -> St) (p : ι -> Prop) (μ : ι -> Nat) (i0 : ι) (r0 : List Nat) (hp : p i0) (h0 : St.le m r0 s (I i0))
  (hb : ∀ i, p i -> B () (fun x s' => match x with
   | .g l' => l' = l /\ ∃ j r, p j /\ μ j < μ i /\ St.le m r s' (I j)
   | x => K x s') (I i)) : ScopeTo P m l c B K s := by
 refine ⟨fun hB cc hf w0 β0 β M a w ht hw hx => ?_⟩
 have key : ∀ k i (β : Nat -> Loc) M a w, p i -> μ i < k -> RelT (M.map mark) β (I i).h.length (I i).t a -> RelW (w0.add M) β (I i).h w -> Ext m β0 (I i).h β -> (c ()).wpIn (fen none) 0 P (JmpIn (fen none) 0 P cc (.seq .skip (c ())) l (QQ w0 m β0 K)) a w := by
  intro k
  induction k with
  | zero => intro i β M a w _ h; omega
  | succ k ih =>
   intro i β M a w hpi hlt ht hw hx
   refine wpIn_mono (hB w0 β0 _ (I i) β M a w (hb i hpi) ht hw hx) (fun e a w hq => ?_)
   cases e with
   | goto l' =>
    obtain ⟨s', β', M', h1, h2, h3, h4, j, r, h5, h6, h7⟩ := hq
    obtain ⟨q1, q2, q3⟩ := St.le_rel h7 h1 h2 h3
    refine ⟨h4, ?_⟩
    intro b k cs hro hbf hbr
    have hb0 : b.roundOf = none := hro
    have hn := ih j _ M' a w h5 (by omega) q1 q2 q3
    have hn2 : (Code.seq .skip (c ())).wpIn (fen none) 0 P (JmpIn (fen none) 0 P cc (.seq .skip (c ())) l (QQ w0 m β0 K)) a w := wpIn_seq (wpIn_skip hn)
    have hg : gotoIn l (.inScope cc :: k) = some (.code (.seq .skip (c ())) :: .inScope cc :: k) := by simp [gotoIn, hf]
    obtain ⟨e, a₁, w₁, hq, harr⟩ := hn2 b (.inScope cc :: k) cs hro hbf hbr
    cases e with
    | normal =>
     have s2 : step P (lone (b.atR a₁ (.inScope cc :: k)) cs w₁) = .next (lone (b.atR a₁ k) cs w₁) := by
      simp only [Frame.atR_of_none hb0]; exact step_inScope
     exact ⟨.normal, a₁, w₁, hq, StepsIn.trans harr (.one (fenced_calm hbf hbr rfl) s2)⟩
    | exit id =>
     have hx : exitTo id (.inScope cc :: k) = exitTo id k := by simp [exitTo]
     exact ⟨.exit id, a₁, w₁, hq, fun k' hk => harr.1 k' (by rw [hx]; exact hk), fun hr' hk => harr.2 hr' (by rw [hx]; exact hk)⟩
    | goto l' =>
     obtain ⟨rfl, hre⟩ := hq
     obtain ⟨e₂, a₂, w₂, hq₂, harr₂⟩ := hre b k cs hro hbf hbr
     exact ⟨e₂, a₂, w₂, hq₂, .of_steps (harr.1 _ hg) harr₂⟩
    | ret => exact ⟨.ret, a₁, w₁, hq, harr⟩
    | panic ch => exact ⟨.panic ch, a₁, w₁, hq, harr⟩
    | outgrown => exact ⟨.outgrown, a₁, w₁, hq, harr⟩
   | normal => exact hq
   | exit j => exact hq
   | ret => exact hq
   | _ => exact hq
 obtain ⟨q1, q2, q3⟩ := St.le_rel h0 ht hw hx
 exact key (μ i0 + 1) _ _ M a w hp (by omega) q1 q2 q3
/-- As LoopTo.by: which slots and blocks are told of. -/
theorem ScopeTo.by {ι : Type} {P : Program} {m l : Nat} {c : Unit -> Code} {B : Unit -> (X -> St -> Prop) -> St -> Prop} {K : X -> St -> Prop} {s : St} (chg : ι -> List (Nat × AV)) (hc : ι -> List (Nat × Blk)) (p : ι -> Prop) (μ : ι -> Nat) (i0 : ι) (r0 : List Nat) (hp : p i0) (h0 : St.le m r0 s (s.upd (c ()) (chg i0) (hc i0)))
  (hb : ∀ i, p i -> B () (fun x s' => match x with
   | .g l' => l' = l /\ ∃ j r, p j /\ μ j < μ i /\ St.le m r s' (s.upd (c ()) (chg j) (hc j))
   | x => K x s') (s.upd (c ()) (chg i) (hc i))) : ScopeTo P m l c B K s :=
 ScopeTo.inv (fun i => s.upd (c ()) (chg i) (hc i)) p μ i0 r0 hp h0 hb
/-- All ends of a drawn region are told as one sort of state. -/
theorem DrawTo.merge {κ : Type} {P : Program} {m : Nat} {c : Unit -> Code} {B : Unit -> (X -> St -> Prop) -> Prop} {K : X -> St -> Prop} {s : St} (J : κ -> St) (q : κ -> Prop)
  (hb : B () (fun x s' => match x with
   | .n => ∃ k r, q k /\ St.le m r s' (J k)
   | x => K x s'))
  (hk : ∀ k, q k -> K .n (J k)) : DrawTo P m c B K s := by
 refine ⟨fun ro hB w0 β0 β M a w ht hw hx => ?_⟩
 refine wpIn_mono (hB w0 β0 _ β M a w hb ht hw hx) (fun e a w hq => ?_)
 cases e with
 | normal =>
  obtain ⟨s', β', M', h1, h2, h3, k, r, h4, h5⟩ := hq
  obtain ⟨q1, q2, q3⟩ := St.le_rel h5 h1 h2 h3
  exact ⟨J k, _, M', q1, q2, q3, hk k h4⟩
 | ret => exact hq
 | exit j => exact hq
 | _ => exact hq
end Go.Proofs.YtfdealobplcboaaGreat.Sx

set_option linter.unusedVariables false
set_option linter.unusedSimpArgs false
set_option maxRecDepth 100000
set_option maxHeartbeats 4000000
namespace Go.Proofs.YtfdealobplcboaaGreat.Sx
theorem divide_lt (a d : Nat) (h : a < d) (ha : (lb a).length <= 137438953472) (hd : (lb d).length <= 137438953472) : Con Tryz.prog 213 [.ro cU (lb a), .ro cU (lb d)] (.tup [.ro cU [], .arg 0 (lb a).length]) := by
 have hc := compare_con a d ha hd
 have hcc : cmpI a d = -1 := by rw [cmpI, if_pos (by omega)]
 rw [hcc] at hc
 obtain ⟨xs, hxs⟩ : ∃ x, x = lb a := ⟨_, rfl⟩
 obtain ⟨ys, hys⟩ : ∃ x, x = lb d := ⟨_, rfl⟩
 rw [<- hxs, <- hys] at hc
 rw [<- hxs, <- hys]
 obtain ⟨n, hn⟩ : ∃ x : Int, x = xs.length := ⟨_, rfl⟩
 rw [<- hn]
 refine Con.of ttOk mixed Tryz.func213 {} .nil 0 (by kernel_rfl) (fun P' E hP hE => ?_)
 clear hxs hys ha hd
 have hlx : Env.std.tk Int xs (Env.std.len Int xs) = xs := by rw [s_tk, s_len, List.take_of_length_le (by omega)]
 have hly : Env.std.tk Int ys (Env.std.len Int ys) = ys := by rw [s_tk, s_len, List.take_of_length_le (by omega)]
 have hnn : Env.std.len Int xs = n := hn.symm
 cbv
 refine CallTo.con hP hE hc (by subst hE; exact ⟨Sm.of hlx, Sm.of hly, trivial⟩) ?_
 cbv
 refine ⟨fun h1 => ?_, fun h1 => ?_⟩
 ·cbv
  subst hE
  exact ⟨cInt_ok .u32, hnn, trivial⟩
 ·exfalso
  subst hE
  have h : Env.std.ic .lss (-1) 0 = false := h1
  simp at h
theorem len_lb_one {d : Nat} (h : (lb d).length = 1) : 0 < d /\ d < 4294967296 /\ (lb d).getD 0 0 = d := by
 have h1 := val_lb d
 have h2 := lb_lt d
 have h3 : d ≠ 0 := fun c => by rw [c, lb_zero] at h; simp at h
 rw [h] at h2
 match hl : lb d, h with
 | [x], _ =>
  rw [hl] at h1
  simp only [val] at h1
  exact ⟨by omega, by omega, by show x = _; omega⟩
theorem divide_one (a d : Nat) (h : d <= a) (ha : (lb a).length <= 137438953472) (hd : (lb d).length = 1) : Con Tryz.prog 213 [.ro cU (lb a), .ro cU (lb d)] (.tup [.ro cU (lb (a / d)), .ro cU (lb (a % d))]) := by
 obtain ⟨d0, d1, d2⟩ := len_lb_one hd
 have hc := compare_con a d ha (by omega)
 have hs := short_con a d ha d0 d1
 obtain ⟨c, hcc⟩ : ∃ c, c = cmpI a d := ⟨_, rfl⟩
 have hc0 : 0 <= c := by rw [hcc, cmpI, if_neg (by omega)]; split <;> omega
 rw [<- hcc] at hc
 obtain ⟨m, hm⟩ : ∃ m, m = a % d := ⟨_, rfl⟩
 have hmd : m < d := by rw [hm]; exact Nat.mod_lt _ d0
 have hrok : Ok32 [(m : Int)] := .cons (by omega) (by omega) .nil
 have htk := take_tlen hrok
 have hvm : (val [(m : Int)]).toNat = m := by show ((m : Int) + 4294967296 * 0).toNat = m; omega
 rw [hvm] at htk
 obtain ⟨r, hr⟩ : ∃ r : Int, r = m := ⟨_, rfl⟩
 rw [<- hm] at hs
 rw [<- hm, <- htk]
 rw [<- hr] at hs htk ⊢
 have ht := trim_con [r] (by simp)
 obtain ⟨n, hn⟩ : ∃ n, n = tlen [r] := ⟨_, rfl⟩
 rw [<- hn] at ht ⊢
 obtain ⟨w, hw⟩ : ∃ w, w = List.take n [r] := ⟨_, rfl⟩
 rw [<- hw]
 obtain ⟨xs, hxs⟩ : ∃ x, x = lb a := ⟨_, rfl⟩
 obtain ⟨ys, hys⟩ : ∃ x, x = lb d := ⟨_, rfl⟩
 obtain ⟨zs, hzs⟩ : ∃ x, x = lb (a / d) := ⟨_, rfl⟩
 rw [<- hxs, <- hys] at hc
 rw [<- hxs, <- hzs] at hs
 rw [<- hxs, <- hys, <- hzs]
 rw [<- hys] at hd d2
 obtain ⟨e, he⟩ : ∃ e : Int, e = d := ⟨_, rfl⟩
 rw [<- he] at hs d2
 refine Con.of ttOk mixed Tryz.func213 {} .nil 0 (by kernel_rfl) (fun P' E hP hE => ?_)
 clear hxs hys hzs ha hcc htk hrok hvm hm hn
 have hlx : Env.std.tk Int xs (Env.std.len Int xs) = xs := by rw [s_tk, s_len, List.take_of_length_le (by omega)]
 have hly : Env.std.tk Int ys (Env.std.len Int ys) = ys := by rw [s_tk, s_len, List.take_of_length_le (by omega)]
 have hlz : Env.std.tk Int zs (Env.std.len Int zs) = zs := by rw [s_tk, s_len, List.take_of_length_le (by omega)]
 have hgy : Env.std.get Int ys 0 0 = e := d2
 have hin : Env.std.inb 0 (Env.std.len Int ys) := by rw [s_inb, s_len]; omega
 have hone : Env.std.ic .eql (Env.std.len Int ys) 1 = true := by rw [s_eql, s_len, hd]; rfl
 cbv
 refine CallTo.con hP hE hc (by subst hE; exact ⟨Sm.of hlx, Sm.of hly, trivial⟩) ?_
 cbv
 refine ⟨fun h1 => ?_, fun h1 => ?_⟩
 ·exfalso
  subst hE
  have h : Env.std.ic .lss c 0 = true := h1
  simp at h
  omega
 ·cbv
  refine ⟨fun h2 => ?_, fun h2 => ?_⟩
  ·cbv
   refine ⟨by subst hE; exact hin, ?_⟩
   cbv
   refine CallTo.con hP hE hs (by subst hE; exact ⟨Sm.of hlx, congrArg (Value.int .u32) hgy, trivial⟩) ?_
   cbv
   refine CallTo.lit (i := 0) (c := cU) (ys := [r]) rfl rfl (cInt_ok _) rfl rfl (by decide) ?_
   refine CallTo.con hP hE ht ?_ ?_
   ·subst hE
    exact ⟨Sm.of rfl, trivial⟩
   ·have hw' : Env.std.tk Int [r] n = w := by rw [s_tk, Int.toNat_natCast, hw]
    cbv
    subst hE
    exact ⟨Sm.of hlz, Sm.of hw', trivial⟩
  ·exfalso
   subst hE
   have h : Env.std.ic .eql (Env.std.len Int ys) 1 = false := h2
   rw [hone] at h
   cases h
end Go.Proofs.YtfdealobplcboaaGreat.Sx

set_option linter.unusedVariables false
set_option linter.unusedSimpArgs false
set_option maxHeartbeats 4000000
namespace Go.Proofs.YtfdealobplcboaaGreat.Sx
def dTop (vs us : List Int) (i : Int) : Int := us.getD (i.toNat + vs.length) 0 * 4294967296 + us.getD (i.toNat + vs.length - 1) 0
def dU2 (vs us : List Int) (i : Int) : Int := us.getD (i.toNat + vs.length - 2) 0
def dV1 (vs : List Int) : Int := vs.getD (vs.length - 1) 0
def dV2 (vs : List Int) : Int := vs.getD (vs.length - 2) 0
def dQ (vs us : List Int) (i : Int) : Int := val us / (val vs * 4294967296 ^ i.toNat)
structure GInv (vs us : List Int) (i g r : Int) : Prop where
 q : dQ vs us i <= g
 g0 : 0 <= g
 g1 : g < 18446744073709551616
 r0 : 0 <= r
 r1 : r < 18446744073709551616
 s : g * dV1 vs + r = dTop vs us i
structure GEnd (vs us : List Int) (i g : Int) : Prop where
 q : dQ vs us i <= g
 q1 : g <= dQ vs us i + 1
 g0 : 0 <= g
 g1 : g < 4294967296
theorem DS.v1 {vs us : List Int} {i : Int} (S : DS vs us i) : 1 <= dV1 vs /\ dV1 vs < 4294967296 := by
 obtain ⟨W, Y, p, low, vl, G, hN⟩ := S.dg
 exact ⟨G.v10, G.v11⟩
theorem DS.v2 {vs us : List Int} {i : Int} (S : DS vs us i) : 0 <= dV2 vs /\ dV2 vs < 4294967296 := S.vok.get _
theorem DS.u2 {vs us : List Int} {i : Int} (S : DS vs us i) : 0 <= dU2 vs us i /\ dU2 vs us i < 4294967296 := S.uok.get _
theorem DS.t {vs us : List Int} {i : Int} (S : DS vs us i) : 0 <= dTop vs us i /\ dTop vs us i < 18446744073709551616 := by
 obtain ⟨W, Y, p, low, vl, G, hN⟩ := S.dg
 exact ⟨G.t0, G.t1⟩
theorem DS.first {vs us : List Int} {i : Int} (S : DS vs us i) : GInv vs us i (dTop vs us i / dV1 vs) (dTop vs us i % dV1 vs) := by
 have ht := S.t
 have hv := S.v1
 obtain ⟨W, Y, p, low, vl, G, hN⟩ := S.dg
 obtain ⟨h1, h2, h3, h4, h5⟩ := G.first
 have h6 := Int.emod_lt_of_pos (dTop vs us i) (show 0 < dV1 vs by omega)
 exact ⟨h1, h2, h3, h5, by omega, h4⟩
theorem GInv.down {vs us : List Int} {i g r : Int} (S : DS vs us i) (h : GInv vs us i g r) (hc : 4294967296 <= g \/ r * 4294967296 + dU2 vs us i < g * dV2 vs) : GInv vs us i (g - 1) (r + dV1 vs) := by
 have ht := S.t
 have hv := S.v1
 have q0 := h.r0
 obtain ⟨W, Y, p, low, vl, G, hN⟩ := S.dg
 have h1 := G.down h.s h.q hc
 have h0 : 0 <= dQ vs us i := G.q.1
 have g0 : 0 <= g - 1 := Int.le_trans h0 h1
 have hs : (g - 1) * dV1 vs + (r + dV1 vs) = dTop vs us i := by
  rw [Int.sub_mul, Int.one_mul, <- h.s]; omega
 have hm : 0 <= (g - 1) * dV1 vs := Int.mul_nonneg g0 (by omega)
 exact ⟨h1, g0, by have := h.g1; omega, by omega, by omega, hs⟩
theorem GInv.stop {vs us : List Int} {i g r : Int} (S : DS vs us i) (h : GInv vs us i g r) (hg : g < 4294967296) (hc : 4294967296 <= r \/ g * dV2 vs <= r * 4294967296 + dU2 vs us i) : GEnd vs us i g := by
 obtain ⟨W, Y, p, low, vl, G, hN⟩ := S.dg
 exact ⟨h.q, G.stop h.s h.g0 hg hc, h.g0, hg⟩
end Go.Proofs.YtfdealobplcboaaGreat.Sx
