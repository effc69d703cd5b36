/- Part 15 of what the statement needs: an executor of Go texts, arithmetic, and contracts of the functions that are called. -/
import Derived.Test.YtfdealobplcboaaGreatCr14
set_option linter.unusedVariables false
set_option linter.unusedSimpArgs false
set_option maxHeartbeats 4000000
namespace Go.Proofs.YtfdealobplcboaaGreat.Sx
structure TInv (X Y : List Int) (i : Int) (o : List Int) : Prop where
 i0 : 0 <= i
 i1 : i <= X.length
 len : o.length = X.length + Y.length
 ok : Ok32 o
 z : ∀ j, i.toNat + Y.length <= j -> o.getD j 0 = 0
 v : val o = val (X.take i.toNat) * val Y
structure UInv (X Y : List Int) (i : Int) (V : Int) (k c : Int) (o : List Int) : Prop where
 i0 : 0 <= i
 i1 : i < X.length
 k0 : 0 <= k
 k1 : k <= Y.length
 len : o.length = X.length + Y.length
 ok : Ok32 o
 z : ∀ j, i.toNat + Y.length <= j -> o.getD j 0 = 0
 c0 : 0 <= c
 c1 : c < 4294967296
 v : val o + c * 4294967296 ^ (i.toNat + k.toNat) = V + X.getD i.toNat 0 * 4294967296 ^ i.toNat * val (Y.take k.toNat)
theorem TInv.zero {X Y : List Int} {i : Int} {o : List Int} (hi : i = 0) (ho : o = List.replicate (X.length + Y.length) 0) : TInv X Y i o := by
 subst hi; subst ho
 exact ⟨by omega, by omega, by simp, .rep _, fun j _ => rep_getD _ _, by rw [val_rep]; simp [val]⟩
theorem UInv.zero {X Y : List Int} {i k : Int} {o : List Int} (h : TInv X Y i o) (hi : i < X.length) (hk : k = 0) : UInv X Y i (val o) k k o := by
 subst hk
 exact ⟨h.i0, hi, by omega, by omega, h.len, h.ok, h.z, by omega, by omega, by simp [val]⟩
theorem prod_lt {x y : Int} (x0 : 0 <= x) (x1 : x < 4294967296) (y0 : 0 <= y) (y1 : y < 4294967296) : 0 <= x * y /\ x * y <= 18446744065119617025 := by
 refine ⟨Int.mul_nonneg x0 y0, ?_⟩
 have h1 : x * y <= 4294967295 * y := Int.mul_le_mul_of_nonneg_right (by omega) y0
 omega
theorem UInv.step {X Y : List Int} (hX : Ok32 X) (hY : Ok32 Y) {i V k c s : Int} {o : List Int} (h : UInv X Y i V k c o) (hk : k < Y.length) (hs : s = c + (X.getD i.toNat 0 * Y.getD k.toNat 0 + o.getD (i + k).toNat 0)) :
  0 <= s /\ s < 18446744073709551616 /\ UInv X Y i V (k + 1) (s / 4294967296) (o.set (i + k).toNat (s % 4294967296)) := by
 have hx := hX.get i.toNat
 have hy := hY.get k.toNat
 have ho := h.ok.get (i + k).toNat
 have hc0 := h.c0
 have hc1 := h.c1
 have hi0 := h.i0
 have hi1 := h.i1
 have hk0 := h.k0
 have hp := prod_lt hx.1 hx.2 hy.1 hy.2
 have e : (k + 1).toNat = k.toNat + 1 := by omega
 have e2 : (i + k).toNat = i.toNat + k.toNat := by omega
 have hlt : (i + k).toNat < o.length := by rw [h.len]; omega
 have hs0 : 0 <= s := by omega
 have hs1 : s < 18446744073709551616 := by omega
 refine ⟨hs0, hs1, ⟨h.i0, h.i1, by omega, by omega, by rw [List.length_set, h.len], h.ok.set (by omega) (by omega) _, fun j hj => ?_, by omega, by omega, ?_⟩⟩
 ·rw [getD_set hlt, if_neg (by omega)]
  exact h.z j hj
 ·have hv := h.v
  rw [val_set _ _ _ hlt, e, val_take_succ, <- Nat.add_assoc, Int.pow_succ]
  rw [e2] at hs ⊢
  have hs2 : s = s % 4294967296 + 4294967296 * (s / 4294967296) := by omega
  have hpw : (4294967296 : Int) ^ (i.toNat + k.toNat) = 4294967296 ^ i.toNat * 4294967296 ^ k.toNat := Int.pow_add _ _ _
  rw [hpw] at hv ⊢
  generalize s / 4294967296 = q at *
  generalize s % 4294967296 = m at *
  generalize o.getD (i.toNat + k.toNat) 0 = u at *
  generalize X.getD i.toNat 0 = x at *
  generalize Y.getD k.toNat 0 = y at *
  generalize (4294967296 : Int) ^ i.toNat = p at *
  generalize (4294967296 : Int) ^ k.toNat = p' at *
  generalize val (Y.take k.toNat) = w at *
  have : m = c + (x * y + u) - 4294967296 * q := by omega
  rw [this]
  grind
theorem UInv.last {X Y : List Int} {i k c : Int} {o0 o : List Int} (h0 : TInv X Y i o0) (h : UInv X Y i (val o0) k c o) (hk : k = Y.length) : TInv X Y (i + 1) (o.set (i + Y.length).toNat c) := by
 have hi0 := h.i0
 have hi1 := h.i1
 have e : (i + 1).toNat = i.toNat + 1 := by omega
 have e2 : (i + Y.length).toNat = i.toNat + Y.length := by omega
 have hlt : (i + Y.length).toNat < o.length := by rw [h.len]; omega
 refine ⟨by omega, by omega, by rw [List.length_set, h.len], h.ok.set h.c0 h.c1 _, fun j hj => ?_, ?_⟩
 ·rw [getD_set hlt, if_neg (by omega)]
  exact h.z j (by omega)
 ·have hv := h.v
  have hv0 := h0.v
  rw [List.take_of_length_le (by omega)] at hv
  have hkk : k.toNat = Y.length := by omega
  rw [hkk] at hv
  rw [val_set _ _ _ hlt, e, val_take_succ, e2, h.z _ (Nat.le_refl _)]
  generalize X.getD i.toNat 0 = x at *
  generalize (4294967296 : Int) ^ i.toNat = p at *
  generalize (4294967296 : Int) ^ (i.toNat + Y.length) = p' at *
  grind
end Go.Proofs.YtfdealobplcboaaGreat.Sx

set_option linter.unusedVariables false
set_option linter.unusedSimpArgs false
set_option maxRecDepth 100000
set_option maxHeartbeats 4000000
namespace Go.Proofs.YtfdealobplcboaaGreat.Sx
theorem times_core (xs ys r : List Int) (hx : Ok32 xs) (hy : Ok32 ys) (ha : xs.length <= 137438953472) (hb : ys.length <= 137438953472) (hlen : xs.length + ys.length <= 137438953472) (hr : r = lb (val xs * val ys).toNat) : Con Tryz.prog 167 [.ro cU xs, .ro cU ys] (.own 169 cU r) := by
 refine Con.of ttOk mixed Tryz.func167 {} .nil 0 (by kernel_rfl) (fun P' E hP hE => ?_)
 have hsum : Env.std.ib .add .i64 (Env.std.len Int xs) (Env.std.len Int ys) = (xs.length : Int) + (ys.length : Int) := by
  rw [s_add, s_len, s_len, w64 (by omega) (by omega)]
 have hmk : Env.std.rng 0 (Env.std.ib .add .i64 (Env.std.len Int xs) (Env.std.len Int ys)) (Env.std.ib .add .i64 (Env.std.len Int xs) (Env.std.len Int ys)) /\ Env.std.fits (Env.std.ib .add .i64 (Env.std.len Int xs) (Env.std.len Int ys)) 4 := by
  rw [hsum, s_rng, s_fits]; omega
 obtain ⟨i0, hi0⟩ : ∃ i : Int, i = 0 := ⟨_, rfl⟩
 obtain ⟨o0, ho0⟩ : ∃ b : List Int, b = List.replicate (xs.length + ys.length) 0 := ⟨_, rfl⟩
 have hrep : Env.std.rep Int (Env.std.ib .add .i64 (Env.std.len Int xs) (Env.std.len Int ys)) 0 = o0 := by
  have e : ((xs.length : Int) + (ys.length : Int)).toNat = xs.length + ys.length := by omega
  rw [hsum, s_rep, e, ho0]
 cbv
 refine ⟨by subst hE; exact hmk, ?_⟩
 cbv
 refine LoopTo.by (ι := Int × List Int) (fun x => [(19, .v (.int .i64 x.1))]) (fun x => [(2, .row true 169 cU x.2)]) (fun x => TInv xs ys x.1 x.2) (fun x => (xs.length - x.1).toNat) (i0, o0) [] (TInv.zero hi0 ho0) ?_ ?_
 ·cbv
  subst hE
  and_intros
  all_goals first
   | exact Sm.of hrep
   | exact congrArg (Value.int _) hi0.symm
   | (simp; done)
   | (trace_state; fail)
 ·rintro ⟨i, o⟩ hi
  have hi : TInv xs ys i o := hi
  cbv
  refine ⟨fun h2 => ?_, fun h2 => ?_⟩
  ·have hlt : i < xs.length := by
    subst hE
    have h : Env.std.ic .lss i (Env.std.len Int xs) = true := h2
    simpa using h
   have hi00 := hi.i0
   obtain ⟨k0, hk0⟩ : ∃ i : Int, i = 0 := ⟨_, rfl⟩
   have hu := UInv.zero hi hlt hk0
   cbv
   refine ⟨by subst hE; exact ⟨hi00, hlt⟩, ?_⟩
   cbv
   refine LoopTo.by (ι := Int × Int × List Int) (fun x => [(26, .v (.int .i64 x.1)), (8, .v (.int .u64 x.2.1))]) (fun x => [(2, .row true 169 cU x.2.2)]) (fun x => UInv xs ys i (val o) x.1 x.2.1 x.2.2) (fun x => (ys.length - x.1).toNat) (k0, k0, o) [] hu ?_ ?_
   ·cbv
    subst hE
    and_intros
    all_goals first
     | exact congrArg (Value.int _) hk0.symm
     | (simp; done)
     | (trace_state; fail)
   ·rintro ⟨k, c, u⟩ hk
    have hk : UInv xs ys i (val o) k c u := hk
    cbv
    refine ⟨fun h3 => ?_, fun h3 => ?_⟩
    ·have hlt3 : k < ys.length := by
      subst hE
      have h : Env.std.ic .lss k (Env.std.len Int ys) = true := h3
      simpa using h
     have hkk := hk.k0
     obtain ⟨q1, q2, q3⟩ := hk.step hx hy hlt3 rfl
     have hik : Env.std.ib .add .i64 i k = i + k := by
      have hlt : i < (xs.length : Int) := hlt
      have hlt3 : k < (ys.length : Int) := hlt3
      rw [s_add, w64 (by omega) (by omega)]
     have hin : Env.std.inb (Env.std.ib .add .i64 i k) (Env.std.ib .add .i64 (Env.std.len Int xs) (Env.std.len Int ys)) := by
      have hlt : i < (xs.length : Int) := hlt
      have hlt3 : k < (ys.length : Int) := hlt3
      have hsum : Env.std.ib .add .i64 (Env.std.len Int xs) (Env.std.len Int ys) = (xs.length : Int) + (ys.length : Int) := hsum
      rw [hik, hsum, s_inb]; omega
     have e1 : Env.std.ib .add .u64 c (Env.std.ib .add .u64 (Env.std.ib .mul .u64 (Env.std.cv .u64 (Env.std.get Int xs i 0)) (Env.std.cv .u64 (Env.std.get Int ys k 0))) (Env.std.cv .u64 (Env.std.get Int u (Env.std.ib .add .i64 i k) 0))) = c + (xs.getD i.toNat 0 * ys.getD k.toNat 0 + u.getD (i + k).toNat 0) := by
      have g1 := hx.get i.toNat
      have g2 := hy.get k.toNat
      have g3 := hk.ok.get (i + k).toNat
      have g4 := prod_lt g1.1 g1.2 g2.1 g2.2
      have := hk.c0
      have := hk.c1
      rw [hik, s_cv, s_cv, s_cv, s_get, s_get, s_get, wu64 (n := xs.getD i.toNat 0) (by omega) (by omega), wu64 (n := ys.getD k.toNat 0) (by omega) (by omega), wu64 (n := u.getD (i + k).toNat 0) (by omega) (by omega), s_mul, wu64 g4.1 (by omega), s_add, s_add, wu64 (n := xs.getD i.toNat 0 * ys.getD k.toNat 0 + u.getD (i + k).toNat 0) (by omega) (by omega), wu64 (by omega) (by omega)]
     generalize c + (xs.getD i.toNat 0 * ys.getD k.toNat 0 + u.getD (i + k).toNat 0) = s at q1 q2 q3 e1
     obtain ⟨k', hk'⟩ : ∃ j, j = k + 1 := ⟨_, rfl⟩
     obtain ⟨c', hc'⟩ : ∃ j, j = s / 4294967296 := ⟨_, rfl⟩
     obtain ⟨u', hu'⟩ : ∃ j, j = u.set (i + k).toNat (s % 4294967296) := ⟨_, rfl⟩
     rw [<- hk', <- hc', <- hu'] at q3
     have hkw : Env.std.ib .add .i64 k 1 = k' := by
      have hlt3 : k < (ys.length : Int) := hlt3
      rw [s_add, w64 (by omega) (by omega), hk']
     have hcc : Env.std.ib .shr .u64 (Env.std.ib .add .u64 c (Env.std.ib .add .u64 (Env.std.ib .mul .u64 (Env.std.cv .u64 (Env.std.get Int xs i 0)) (Env.std.cv .u64 (Env.std.get Int ys k 0))) (Env.std.cv .u64 (Env.std.get Int u (Env.std.ib .add .i64 i k) 0)))) 32 = c' := by
      rw [e1, s_shr, hc']
      exact Int.fdiv_eq_ediv_of_nonneg _ (by decide)
     have hrow : Env.std.set Int u (Env.std.ib .add .i64 i k) (Env.std.cv .u32 (Env.std.ib .add .u64 c (Env.std.ib .add .u64 (Env.std.ib .mul .u64 (Env.std.cv .u64 (Env.std.get Int xs i 0)) (Env.std.cv .u64 (Env.std.get Int ys k 0))) (Env.std.cv .u64 (Env.std.get Int u (Env.std.ib .add .i64 i k) 0))))) = u' := by
      rw [e1, hik, s_set, s_cv, IntKind.wrap_u32, hu']
     cbv
     refine ⟨by subst hE; exact ⟨hkk, hlt3⟩, ?_⟩
     cbv
     refine ⟨by subst hE; exact hin, ?_⟩
     cbv
     refine ⟨by subst hE; exact hin, ?_⟩
     cbv
     refine ⟨by subst hE; simp, ?_⟩
     cbv
     refine ⟨(k', c', u'), [0, 1, 2], q3, by have hlt3 : k < (ys.length : Int) := hlt3; show ((ys.length : Int) - k').toNat < ((ys.length : Int) - k).toNat; omega, ?_⟩
     cbv
     subst hE
     and_intros
     all_goals first
      | exact Sm.of hrow
      | exact congrArg (fun x => AV.v (Value.int .i64 x)) hkw
      | exact congrArg (fun x => AV.v (Value.int .u64 x)) hcc
      | (simp; done)
      | (trace_state; fail)
    ·have he3 : k = ys.length := by
      subst hE
      have h : Env.std.ic .lss k (Env.std.len Int ys) = false := h3
      have h : ¬ k < (ys.length : Int) := by simpa using h
      have := hk.k1
      omega
     have hil : Env.std.ib .add .i64 i (Env.std.len Int ys) = i + ys.length := by
      have hlt : i < (xs.length : Int) := hlt
      rw [s_add, s_len, w64 (by omega) (by omega)]
     have hin : Env.std.inb (Env.std.ib .add .i64 i (Env.std.len Int ys)) (Env.std.ib .add .i64 (Env.std.len Int xs) (Env.std.len Int ys)) := by
      have hlt : i < (xs.length : Int) := hlt
      have hsum : Env.std.ib .add .i64 (Env.std.len Int xs) (Env.std.len Int ys) = (xs.length : Int) + (ys.length : Int) := hsum
      rw [hil, hsum, s_inb]; omega
     have q := UInv.last hi hk he3
     obtain ⟨i', hi'⟩ : ∃ j, j = i + 1 := ⟨_, rfl⟩
     obtain ⟨u', hu'⟩ : ∃ j, j = u.set (i + ys.length).toNat c := ⟨_, rfl⟩
     rw [<- hi', <- hu'] at q
     have hii : Env.std.ib .add .i64 i 1 = i' := by
      have hlt : i < (xs.length : Int) := hlt
      rw [s_add, w64 (by omega) (by omega), hi']
     have hrow : Env.std.set Int u (Env.std.ib .add .i64 i (Env.std.len Int ys)) (Env.std.cv .u32 c) = u' := by
      rw [hil, s_set, s_cv, wu32 hk.c0 hk.c1, hu']
     cbv
     refine ⟨by subst hE; exact hin, ?_⟩
     cbv
     refine ⟨(i', u'), [0, 1, 2], q, by have hlt : i < (xs.length : Int) := hlt; show ((xs.length : Int) - i').toNat < ((xs.length : Int) - i).toNat; omega, ?_⟩
     cbv
     subst hE
     and_intros
     all_goals first
      | exact Sm.of hrow
      | exact congrArg (fun x => AV.v (Value.int .i64 x)) hii
      | (simp; done)
      | (trace_state; fail)
  ·have he : i = xs.length := by
    subst hE
    have h : Env.std.ic .lss i (Env.std.len Int xs) = false := h2
    have h : ¬ i < (xs.length : Int) := by simpa using h
    have := hi.i1
    omega
   have q := hi.v
   have hc := trim_con o (by rw [hi.len]; omega)
   obtain ⟨n, hn⟩ : ∃ n, n = tlen o := ⟨_, rfl⟩
   rw [<- hn] at hc
   have hto : ((xs.length : Int) + (ys.length : Int)).toNat = xs.length + ys.length := by omega
   have hrow : Env.std.tk Int o (Env.std.ib .add .i64 (Env.std.len Int xs) (Env.std.len Int ys)) = o := by
    rw [hsum, s_tk, List.take_of_length_le (by rw [hi.len]; exact Nat.le_of_eq hto.symm)]
   have hres : Env.std.tk Int o n = r := by
    rw [s_tk, hn, Int.toNat_natCast, take_tlen hi.ok, q, hr, List.take_of_length_le (by have he : i = (xs.length : Int) := he; omega)]
   cbv
   refine CallTo.con hP hE hc ?_ ?_
   ·subst hE
    exact ⟨Sm.of hrow, trivial⟩
   ·cbv
    subst hE
    exact Sm.of hres
theorem times_con (a b : Nat) (h : (lb a).length + (lb b).length <= 137438953472) : Con Tryz.prog 167 [.ro cU (lb a), .ro cU (lb b)] (.own 169 cU (lb (a * b))) :=
 times_core _ _ _ (lb_ok a) (lb_ok b) (by omega) (by omega) h (by rw [val_lb, val_lb]; rfl)
end Go.Proofs.YtfdealobplcboaaGreat.Sx

set_option linter.unusedVariables false
set_option linter.unusedSimpArgs false
set_option maxHeartbeats 4000000
namespace Go.Proofs.YtfdealobplcboaaGreat.Sx
structure SInv (X : List Int) (d i r : Int) (o : List Int) : Prop where
 i0 : -1 <= i
 i1 : i < X.length
 len : o.length = X.length
 ok : Ok32 o
 z : ∀ j : Nat, (j : Int) <= i -> o.getD j 0 = 0
 r0 : 0 <= r
 r1 : r < d
 v : val (X.take (i + 1).toNat) + val o * d + r * 4294967296 ^ (i + 1).toNat = val X
theorem SInv.zero {X : List Int} {d i r : Int} {o : List Int} (hd : 0 < d) (hi : i = X.length - 1) (hr : r = 0) (ho : o = List.replicate X.length 0) : SInv X d i r o := by
 subst hi; subst ho; subst hr
 refine ⟨by omega, by omega, by simp, .rep _, fun j _ => rep_getD _ _, by omega, hd, ?_⟩
 rw [val_rep, List.take_of_length_le (by omega)]; simp
theorem SInv.step {X : List Int} (hX : Ok32 X) {d i r t : Int} {o : List Int} (hd : d < 4294967296) (h : SInv X d i r o) (hi : 0 <= i) (ht : t = r * 4294967296 + X.getD i.toNat 0) :
  SInv X d (i - 1) (t % d) (o.set i.toNat (t / d)) := by
 have hx := hX.get i.toNat
 have h0 := h.r0
 have h1 := h.r1
 have hi1 := h.i1
 have e : (i - 1 + 1).toNat = i.toNat := by omega
 have e2 : (i + 1).toNat = i.toNat + 1 := by omega
 have hlt : i.toNat < o.length := by rw [h.len]; omega
 have ht0 : 0 <= t := by omega
 have hq0 : 0 <= t / d := Int.ediv_nonneg ht0 (by omega)
 have hq1 : t / d < 4294967296 := Int.ediv_lt_of_lt_mul (by omega) (by
  have h2 : (r + 1) * 4294967296 <= d * 4294967296 := Int.mul_le_mul_of_nonneg_right (by omega) (by decide)
  rw [Int.mul_comm 4294967296]
  omega)
 refine ⟨by omega, by omega, by rw [List.length_set, h.len], h.ok.set hq0 hq1 _, fun j hj => ?_, Int.emod_nonneg _ (by omega), Int.emod_lt_of_pos _ (by omega), ?_⟩
 ·rw [getD_set hlt, if_neg (by omega)]
  exact h.z j (by omega)
 ·have hv := h.v
  rw [e2, val_take_succ, Int.pow_succ] at hv
  rw [val_set _ _ _ hlt, h.z _ (by omega), e]
  have hs := Int.mul_ediv_add_emod t d
  generalize t / d = q at *
  generalize t % d = m at *
  generalize X.getD i.toNat 0 = x at *
  generalize (4294967296 : Int) ^ i.toNat = p at *
  grind
theorem SInv.last {X : List Int} {d i r : Int} {o : List Int} (h : SInv X d i r o) (hi : i = -1) : val o = val X / d /\ r = val X % d := by
 have hv := h.v
 have h0 := h.r0
 have h1 := h.r1
 subst hi
 have e : (-1 + 1 : Int).toNat = 0 := rfl
 rw [e] at hv
 simp [val] at hv
 have hd : 0 < d := by omega
 have : val X = r + d * val o := by rw [<- hv, Int.mul_comm]; omega
 rw [this]
 constructor
 ·rw [Int.add_mul_ediv_left _ _ (by omega), Int.ediv_eq_zero_of_lt h0 h1]; omega
 ·rw [Int.add_mul_emod_self_left, Int.emod_eq_of_lt h0 h1]
end Go.Proofs.YtfdealobplcboaaGreat.Sx

set_option linter.unusedVariables false
set_option linter.unusedSimpArgs false
set_option maxRecDepth 100000
set_option maxHeartbeats 4000000
namespace Go.Proofs.YtfdealobplcboaaGreat.Sx
theorem short_core (xs q : List Int) (d r : Int) (hx : Ok32 xs) (ha : xs.length <= 137438953472) (hd0 : 0 < d) (hd1 : d < 4294967296) (hq : q = lb (val xs / d).toNat) (hr : r = val xs % d) : Con Tryz.prog 236 [.ro cU xs, .v (.int .u32 d)] (.tup [.own 169 cU q, .v (.int .u32 r)]) := by
 refine Con.of ttOk mixed Tryz.func236 {} .nil 0 (by kernel_rfl) (fun P' E hP hE => ?_)
 have hmk : ∀ X : List Int, X.length <= 137438953472 -> Env.std.rng 0 (Env.std.len Int X) (Env.std.len Int X) /\ Env.std.fits (Env.std.len Int X) 4 := by
  intro X h
  rw [s_len, s_rng, s_fits]; omega
 obtain ⟨i0, hi0⟩ : ∃ i : Int, i = xs.length - 1 := ⟨_, rfl⟩
 obtain ⟨r0, hr0⟩ : ∃ i : Int, i = 0 := ⟨_, rfl⟩
 obtain ⟨o0, ho0⟩ : ∃ b : List Int, b = List.replicate xs.length 0 := ⟨_, rfl⟩
 have hii : Env.std.ib .sub .i64 (Env.std.len Int xs) 1 = i0 := by
  rw [s_sub, s_len, w64 (by omega) (by omega), hi0]
 have hrep : Env.std.rep Int (Env.std.len Int xs) 0 = o0 := by rw [s_rep, s_len, Int.toNat_natCast, ho0]
 have hz := SInv.zero hd0 hi0 hr0 ho0
 clear hi0 ho0
 cbv
 refine ⟨by subst hE; exact hmk xs ha, ?_⟩
 cbv
 refine LoopTo.by (ι := Int × Int × List Int) (fun x => [(8, .v (.int .i64 x.1)), (7, .v (.int .u32 x.2.1))]) (fun x => [(2, .row true 169 cU x.2.2)]) (fun x => SInv xs d x.1 x.2.1 x.2.2) (fun x => (x.1 + 1).toNat) (i0, r0, o0) [] hz ?_ ?_
 ·cbv
  subst hE
  and_intros
  all_goals first
   | exact Sm.of hrep
   | exact congrArg (Value.int _) hr0.symm
   | exact congrArg (fun x => AV.v (Value.int .i64 x)) hii
   | (simp; done)
   | (trace_state; fail)
 ·rintro ⟨i, b, o⟩ hi
  have hi : SInv xs d i b o := hi
  cbv
  refine ⟨fun h2 => ?_, fun h2 => ?_⟩
  ·have hge : 0 <= i := by
    subst hE
    have h : Env.std.ic .geq i 0 = true := h2
    simpa using h
   have hlt := hi.i1
   have hst := hi.step hx hd1 hge rfl
   obtain ⟨x, hxx⟩ : ∃ j, j = xs.getD i.toNat 0 := ⟨_, rfl⟩
   have g := hx.get i.toNat
   rw [<- hxx] at hst g
   have hxi : Env.std.get Int xs i 0 = x := hxx.symm
   obtain ⟨y, hy⟩ : ∃ j, j = (b * 4294967296 + x) / d := ⟨_, rfl⟩
   obtain ⟨b', hb'⟩ : ∃ j, j = (b * 4294967296 + x) % d := ⟨_, rfl⟩
   have hc := div32_con b x d y b' hi.r0 hi.r1 g.1 g.2 hd1 hy hb'
   rw [<- hy, <- hb'] at hst
   obtain ⟨o', ho'⟩ : ∃ j, j = o.set i.toNat y := ⟨_, rfl⟩
   obtain ⟨i', hi'⟩ : ∃ j, j = i - 1 := ⟨_, rfl⟩
   rw [<- hi', <- ho'] at hst
   have hiw : Env.std.ib .sub .i64 i 1 = i' := by
    rw [s_sub, w64 (by omega) (by omega), hi']
   have hrow : Env.std.set Int o i y = o' := ho'.symm
   clear hy hb' hxx
   cbv
   refine ⟨by subst hE; exact ⟨hge, hlt⟩, ?_⟩
   cbv
   refine CallTo.con hP hE hc (by subst hE; refine ⟨?_, ?_, ?_, trivial⟩ <;> first | exact congrArg (Value.int .u32) hxi | rfl) ?_
   cbv
   refine ⟨by subst hE; exact ⟨hge, hlt⟩, ?_⟩
   cbv
   refine ⟨(i', b', o'), [0, 1, 2], hst, by show (i' + 1).toNat < (i + 1).toNat; omega, ?_⟩
   cbv
   subst hE
   and_intros
   all_goals first
    | exact Sm.of hrow
    | exact congrArg (fun x => AV.v (Value.int .i64 x)) hiw
    | (simp; done)
    | (trace_state; fail)
  ·have he : i = -1 := by
    subst hE
    have h : Env.std.ic .geq i 0 = false := h2
    have h : ¬ 0 <= i := by simpa using h
    have := hi.i0
    omega
   obtain ⟨q1, q2⟩ := hi.last he
   have hc := trim_con o (by rw [hi.len]; omega)
   obtain ⟨n, hn⟩ : ∃ n, n = tlen o := ⟨_, rfl⟩
   rw [<- hn] at hc
   have hrow : Env.std.tk Int o (Env.std.len Int xs) = o := by
    rw [s_tk, s_len, List.take_of_length_le (by rw [hi.len]; omega)]
   have hres : Env.std.tk Int o n = q := by
    rw [s_tk, hn, Int.toNat_natCast, take_tlen hi.ok, q1, hq]
   have hrr : b = r := by rw [q2, hr]
   cbv
   refine CallTo.con hP hE hc ?_ ?_
   ·subst hE
    exact ⟨Sm.of hrow, trivial⟩
   ·cbv
    subst hE
    exact ⟨Sm.of hres, congrArg (Value.int .u32) hrr, trivial⟩
theorem short_con (a d : Nat) (h : (lb a).length <= 137438953472) (h0 : 0 < d) (h1 : d < 4294967296) : Con Tryz.prog 236 [.ro cU (lb a), .v (.int .u32 d)] (.tup [.own 169 cU (lb (a / d)), .v (.int .u32 (a % d : Nat))]) :=
 short_core _ _ _ _ (lb_ok a) h (by omega) (by omega) (by rw [val_lb]; rfl) (by rw [val_lb]; rfl)
end Go.Proofs.YtfdealobplcboaaGreat.Sx

set_option linter.unusedVariables false
set_option linter.unusedSimpArgs false
set_option maxHeartbeats 4000000
namespace Go.Proofs.YtfdealobplcboaaGreat.Sx
theorem ok_ext : ∀ {xs ys : List Int}, Ok32 xs -> Ok32 ys -> xs.length = ys.length -> val xs = val ys -> xs = ys
 | [], [], _, _, _, _ => rfl
 | [], _ :: _, _, _, h, _ => by cases h
 | _ :: _, [], _, _, h, _ => by cases h
 | x :: xs, y :: ys, hx, hy, hl, hv => by
  simp only [val] at hv
  have h1 := hx.head
  have h2 := hy.head
  have h3 : x = y := by omega
  have h4 : val xs = val ys := by omega
  rw [h3, ok_ext hx.tail hy.tail (by simpa using hl) h4]
structure HInv (X : List Int) (n : Nat) (i : Int) (o : List Int) : Prop where
 i0 : 0 <= i
 i1 : i <= X.length
 len : o.length = X.length + 1
 ok : Ok32 o
 z : ∀ j : Nat, i.toNat < j -> o.getD j 0 = 0
 c : o.getD i.toNat 0 < ((2 ^ n : Nat) : Int)
 v : val o = val (X.take i.toNat) * ((2 ^ n : Nat) : Int)
theorem HInv.zero {X : List Int} {n : Nat} {i : Int} {o : List Int} (hi : i = 0) (ho : o = List.replicate (X.length + 1) 0) : HInv X n i o := by
 subst hi; subst ho
 have : 0 < 2 ^ n := Nat.pow_pos (by decide)
 exact ⟨by omega, by omega, by simp, .rep _, fun j _ => rep_getD _ _, by rw [rep_getD]; omega, by rw [val_rep]; simp [val]⟩
/-- What a limb that is shifted falls into. -/
theorem shl_parts {x : Int} {n : Nat} (x0 : 0 <= x) (x1 : x < 4294967296) (hn : n <= 32) : ∃ c : Nat, x * ((2 ^ n : Nat) : Int) % 4294967296 = ((2 ^ n * c : Nat) : Int) /\ 2 ^ n * c + 2 ^ n <= 4294967296 /\ 0 <= x * ((2 ^ n : Nat) : Int) / 4294967296 /\ x * ((2 ^ n : Nat) : Int) / 4294967296 < ((2 ^ n : Nat) : Int) := by
 have hp : 0 < 2 ^ n := Nat.pow_pos (by decide)
 have hq : 0 < 2 ^ (32 - n) := Nat.pow_pos (by decide)
 have hpq : 2 ^ n * 2 ^ (32 - n) = 4294967296 := by
  rw [<- Nat.pow_add]
  have : n + (32 - n) = 32 := by omega
  rw [this]
 obtain ⟨y, rfl⟩ : ∃ y : Nat, x = y := ⟨x.toNat, by omega⟩
 refine ⟨y % 2 ^ (32 - n), ?_, ?_, ?_, ?_⟩
 ·rw [<- Nat.mul_mod_mul_left, hpq, Nat.mul_comm (2 ^ n)]; rfl
 ·have h : y % 2 ^ (32 - n) + 1 <= 2 ^ (32 - n) := Nat.mod_lt _ hq
  calc 2 ^ n * (y % 2 ^ (32 - n)) + 2 ^ n = 2 ^ n * (y % 2 ^ (32 - n) + 1) := by rw [Nat.mul_add, Nat.mul_one]
   _ <= 2 ^ n * 2 ^ (32 - n) := Nat.mul_le_mul_left _ h
   _ = 4294967296 := hpq
 ·exact Int.ediv_nonneg (Int.mul_nonneg x0 (by omega)) (by decide)
 ·refine Int.ediv_lt_of_lt_mul (by decide) ?_
  rw [Int.mul_comm]
  exact Int.mul_lt_mul_of_pos_left x1 (by omega)
theorem HInv.step {X : List Int} (hX : Ok32 X) {n : Nat} (hn : n <= 32) {i y : Int} {o : List Int} (h : HInv X n i o) (hi : i < X.length) (hy : y = X.getD i.toNat 0 * ((2 ^ n : Nat) : Int)) :
  HInv X n (i + 1) ((o.set i.toNat (o.getD i.toNat 0 + y % 4294967296)).set (i + 1).toNat (y / 4294967296)) := by
 have hx := hX.get i.toNat
 have ho := h.ok.get i.toNat
 have hi0 := h.i0
 have hc := h.c
 obtain ⟨c, h1, h2, h3, h4⟩ := shl_parts hx.1 hx.2 hn
 rw [<- hy] at h1 h3 h4
 have e : (i + 1).toNat = i.toNat + 1 := by omega
 have hlt : i.toNat < o.length := by rw [h.len]; omega
 have hlt2 : i.toNat + 1 < (o.set i.toNat (o.getD i.toNat 0 + y % 4294967296)).length := by rw [List.length_set, h.len]; omega
 have hpn : 2 ^ n <= 2 ^ 32 := Nat.pow_le_pow_right (by decide) hn
 have h32 : 2 ^ 32 = 4294967296 := by decide
 have hlow : o.getD i.toNat 0 + y % 4294967296 < 4294967296 := by omega
 rw [e]
 refine ⟨by omega, by omega, by rw [List.length_set, List.length_set, h.len], (h.ok.set (by omega) hlow _).set h3 (by omega) _, fun j hj => ?_, ?_, ?_⟩
 ·rw [getD_set hlt2, if_neg (by omega), getD_set hlt, if_neg (by omega)]
  exact h.z j (by omega)
 ·rw [e, getD_set hlt2, if_pos rfl]
  exact h4
 ·have hv := h.v
  rw [val_set _ _ _ hlt2, val_set _ _ _ hlt, getD_set hlt, if_neg (by omega), h.z _ (Nat.lt_succ_self _), e, val_take_succ, Int.pow_succ]
  have hs : y = 4294967296 * (y / 4294967296) + y % 4294967296 := by omega
  generalize y / 4294967296 = q at *
  generalize y % 4294967296 = m at *
  generalize X.getD i.toNat 0 = x at *
  generalize (4294967296 : Int) ^ i.toNat = p at *
  grind
theorem HInv.last {X r : List Int} {n : Nat} {i : Int} {o : List Int} (h : HInv X n i o) (hi : i = X.length) (r1 : Ok32 r) (r2 : r.length = X.length + 1) (r3 : val r = val X * ((2 ^ n : Nat) : Int)) : o = r := by
 have hv := h.v
 rw [List.take_of_length_le (by omega)] at hv
 exact ok_ext h.ok r1 (by rw [h.len, r2]) (by rw [hv, r3])
structure NInv (X : List Int) (n : Nat) (i : Int) (o : List Int) : Prop where
 i0 : 0 <= i
 i1 : i <= X.length
 len : o.length = X.length
 ok : Ok32 o
 z : ∀ j : Nat, i.toNat <= j -> o.getD j 0 = 0
 v : val o = ((val X).toNat / 2 ^ n % 4294967296 ^ i.toNat : Nat)
theorem NInv.zero {X : List Int} {n : Nat} {i : Int} {o : List Int} (hi : i = 0) (ho : o = List.replicate X.length 0) : NInv X n i o := by
 subst hi; subst ho
 exact ⟨by omega, by omega, by simp, .rep _, fun j _ => rep_getD _ _, by rw [val_rep]; simp [Nat.mod_one]⟩
/-- A limb of a number that was shifted. -/
theorem shr_limb {X : List Int} (hX : Ok32 X) {n i : Nat} (hn : n <= 32) : (val X).toNat / 2 ^ n / 4294967296 ^ i % 4294967296 = (X.getD i 0 + X.getD (i + 1) 0 * 4294967296).toNat / 2 ^ n % 4294967296 := by
 have hp : 0 < 2 ^ n := Nat.pow_pos (by decide)
 have h1 : val X = val (X.take i) + 4294967296 ^ i * (X.getD i 0 + 4294967296 * X.getD (i + 1) 0) + 4294967296 ^ i * (4294967296 * 4294967296) * val (X.drop (i + 2)) := by
  by_cases c : i + 2 <= X.length
  ·have a := val_split c
   have b : val (X.take (i + 2)) = val (X.take i) + 4294967296 ^ i * X.getD i 0 + 4294967296 ^ (i + 1) * X.getD (i + 1) 0 := by
    rw [val_take_succ (i := i + 1), val_take_succ]
   rw [a, b, Int.pow_succ, Int.pow_succ]
   grind
  ·have b : val (X.take (i + 2)) = val (X.take i) + 4294967296 ^ i * X.getD i 0 + 4294967296 ^ (i + 1) * X.getD (i + 1) 0 := by
    rw [val_take_succ (i := i + 1), val_take_succ]
   rw [List.take_of_length_le (by omega)] at b
   have d : X.drop (i + 2) = [] := List.drop_eq_nil_of_le (by omega)
   rw [b, d, Int.pow_succ]
   simp only [val]
   grind
 have g0 := hX.get i
 have g1 := hX.get (i + 1)
 have t0 := val_nonneg (hX.take i)
 have t1 := val_lt (hX.take i)
 have d0 := val_nonneg (hX.drop (i + 2))
 have t2 : val (X.take i) < 4294967296 ^ i := by
  have : (4294967296 : Int) ^ (X.take i).length <= 4294967296 ^ i := pow_mono32 (by rw [List.length_take]; omega)
  omega
 obtain ⟨a, ha⟩ : ∃ a : Nat, val (X.take i) = a := ⟨(val (X.take i)).toNat, by omega⟩
 obtain ⟨w, hw⟩ : ∃ a : Nat, X.getD i 0 + X.getD (i + 1) 0 * 4294967296 = a := ⟨(X.getD i 0 + X.getD (i + 1) 0 * 4294967296).toNat, by omega⟩
 obtain ⟨d, hd⟩ : ∃ a : Nat, val (X.drop (i + 2)) = a := ⟨(val (X.drop (i + 2))).toNat, by omega⟩
 have h2 : (val X).toNat = a + 4294967296 ^ i * (w + 4294967296 * 4294967296 * d) := by
  have e : val X = ((a + 4294967296 ^ i * (w + 4294967296 * 4294967296 * d) : Nat) : Int) := by
   have e1 : X.getD i 0 + 4294967296 * X.getD (i + 1) 0 = w := by rw [<- hw, Int.mul_comm]
   have c : ((4294967296 ^ i : Nat) : Int) = 4294967296 ^ i := by simp
   rw [h1, ha, hd, e1]
   simp only [Int.natCast_add, Int.natCast_mul, c]
   generalize (4294967296 : Int) ^ i = p
   grind
  omega
 have hB : 0 < 4294967296 ^ i := Nat.pow_pos (by decide)
 have ha' : a < 4294967296 ^ i := by
  have : ((4294967296 ^ i : Nat) : Int) = 4294967296 ^ i := by simp
  omega
 have h3 : (val X).toNat / 4294967296 ^ i = w + 4294967296 * 4294967296 * d := by
  rw [h2, Nat.add_mul_div_left _ _ hB, Nat.div_eq_of_lt ha', Nat.zero_add]
 have hpq : 2 ^ n * 2 ^ (32 - n) = 4294967296 := by
  rw [<- Nat.pow_add]
  have : n + (32 - n) = 32 := by omega
  rw [this]
 rw [hw, Nat.div_div_eq_div_mul, Nat.mul_comm, <- Nat.div_div_eq_div_mul, h3]
 have h4 : w + 4294967296 * 4294967296 * d = w + 2 ^ n * (4294967296 * (2 ^ (32 - n) * d)) := by
  have : 4294967296 * 4294967296 * d = 2 ^ n * 2 ^ (32 - n) * (4294967296 * d) := by rw [hpq, Nat.mul_assoc]
  rw [this]; grind
 rw [h4, Nat.add_mul_div_left _ _ hp, Nat.add_mul_mod_self_left]
 simp
theorem NInv.step {X : List Int} (hX : Ok32 X) {n : Nat} (hn : n <= 32) {i y : Int} {o : List Int} (h : NInv X n i o) (hi : i < X.length) (hy : y = X.getD i.toNat 0 + X.getD (i.toNat + 1) 0 * 4294967296) :
  NInv X n (i + 1) (o.set i.toNat ((y.toNat / 2 ^ n % 4294967296 : Nat))) := by
 have hi0 := h.i0
 have e : (i + 1).toNat = i.toNat + 1 := by omega
 have hlt : i.toNat < o.length := by rw [h.len]; omega
 have hm : y.toNat / 2 ^ n % 4294967296 < 4294967296 := Nat.mod_lt _ (by decide)
 refine ⟨by omega, by omega, by rw [List.length_set, h.len], h.ok.set (by omega) (by omega) _, fun j hj => ?_, ?_⟩
 ·rw [getD_set hlt, if_neg (by omega)]
  exact h.z j (by omega)
 ·have hv := h.v
  rw [val_set _ _ _ hlt, h.z _ (Nat.le_refl _), e, hv, Nat.pow_succ, Nat.mod_mul, shr_limb hX hn, <- hy]
  have c : ((4294967296 ^ i.toNat : Nat) : Int) = 4294967296 ^ i.toNat := by simp
  simp only [Int.natCast_add, Int.natCast_mul, c]
  generalize (4294967296 : Int) ^ i.toNat = p
  grind
theorem NInv.last {X : List Int} (hX : Ok32 X) {n : Nat} {i : Int} {o : List Int} (h : NInv X n i o) (hi : i = X.length) : val o = ((val X).toNat / 2 ^ n : Nat) := by
 have hv := h.v
 have h0 := val_nonneg hX
 have h1 := val_lt hX
 have e : i.toNat = X.length := by omega
 rw [e, Nat.mod_eq_of_lt] at hv
 ·exact hv
 ·have : ((4294967296 ^ X.length : Nat) : Int) = 4294967296 ^ X.length := by simp
  have h2 : (val X).toNat / 2 ^ n <= (val X).toNat := Nat.div_le_self _ _
  omega
end Go.Proofs.YtfdealobplcboaaGreat.Sx

set_option linter.unusedVariables false
set_option linter.unusedSimpArgs false
set_option maxRecDepth 100000
set_option maxHeartbeats 4000000
namespace Go.Proofs.YtfdealobplcboaaGreat.Sx
theorem shl64 {x : Int} {n : Nat} (x0 : 0 <= x) (x1 : x < 4294967296) (hn : n <= 32) : Env.std.ib .shl .u64 (Env.std.cv .u64 x) (n : Int) = x * ((2 ^ n : Nat) : Int) := by
 have hpn : 2 ^ n <= 2 ^ 32 := Nat.pow_le_pow_right (by decide) hn
 have h32 : 2 ^ 32 = 4294967296 := by decide
 have h0 : 0 <= x * ((2 ^ n : Nat) : Int) := Int.mul_nonneg x0 (Int.natCast_nonneg _)
 have h1 : x * ((2 ^ n : Nat) : Int) <= 4294967295 * 4294967296 := Int.mul_le_mul (by omega) (by omega) (Int.natCast_nonneg _) (by decide)
 have hm : min ((n : Int).toNat) IntKind.u64.bits = n := by show min ((n : Int).toNat) 64 = n; omega
 have hc : (2 : Int) ^ n = ((2 ^ n : Nat) : Int) := by simp
 rw [s_cv, wu64 x0 (by omega), s_shl, hm, hc, wu64 h0 (by omega)]
theorem shr64 {x : Int} {n : Nat} (x0 : 0 <= x) (hn : n <= 32) : Env.std.ib .shr .u64 x (n : Int) = ((x.toNat / 2 ^ n : Nat) : Int) := by
 have hm : min ((n : Int).toNat) IntKind.u64.bits = n := by show min ((n : Int).toNat) 64 = n; omega
 have hc : (2 : Int) ^ n = ((2 ^ n : Nat) : Int) := by simp
 have h : (x.toNat : Int) = x := by omega
 rw [s_shr, hm, hc, Int.fdiv_eq_ediv_of_nonneg _ (Int.natCast_nonneg _), Int.natCast_ediv, h]
theorem shift_core (xs r : List Int) (n : Nat) (hx : Ok32 xs) (ha : xs.length <= 137438953472) (hn : n <= 32) (r1 : Ok32 r) (r2 : r.length = xs.length + 1) (r3 : val r = val xs * ((2 ^ n : Nat) : Int)) : Con Tryz.prog 242 [.ro cU xs, .v (.int .i64 n)] (.own 169 cU r) := by
 obtain ⟨s, hs⟩ : ∃ s : Int, s = n := ⟨_, rfl⟩
 have hs0 : 0 <= s := by omega
 rw [<- hs]
 refine Con.of ttOk mixed Tryz.func242 {} .nil 0 (by kernel_rfl) (fun P' E hP hE => ?_)
 have hl1 : Env.std.ib .add .i64 (Env.std.len Int xs) 1 = (xs.length : Int) + 1 := by
  rw [s_add, s_len, w64 (by omega) (by omega)]
 have hmk : Env.std.rng 0 (Env.std.ib .add .i64 (Env.std.len Int xs) 1) (Env.std.ib .add .i64 (Env.std.len Int xs) 1) /\ Env.std.fits (Env.std.ib .add .i64 (Env.std.len Int xs) 1) 4 := by
  rw [hl1, s_rng, s_fits]; omega
 obtain ⟨i0, hi0⟩ : ∃ i : Int, i = 0 := ⟨_, rfl⟩
 obtain ⟨o0, ho0⟩ : ∃ b : List Int, b = List.replicate (xs.length + 1) 0 := ⟨_, rfl⟩
 have hrep : Env.std.rep Int (Env.std.ib .add .i64 (Env.std.len Int xs) 1) 0 = o0 := by
  have e : ((xs.length : Int) + 1).toNat = xs.length + 1 := by omega
  rw [hl1, s_rep, e, ho0]
 have hz := HInv.zero (n := n) hi0 ho0
 clear ho0
 cbv
 refine ⟨by subst hE; exact hmk, ?_⟩
 cbv
 refine LoopTo.by (ι := Int × List Int) (fun x => [(15, .v (.int .i64 x.1))]) (fun x => [(2, .row true 169 cU x.2)]) (fun x => HInv xs n x.1 x.2) (fun x => (xs.length - x.1).toNat) (i0, o0) [] hz ?_ ?_
 ·cbv
  subst hE
  and_intros
  all_goals first
   | exact Sm.of hrep
   | exact congrArg (Value.int _) hi0.symm
   | (simp; done)
   | (trace_state; fail)
 ·rintro ⟨i, o⟩ hi
  have hi : HInv xs n i o := hi
  cbv
  refine ⟨fun h2 => ?_, fun h2 => ?_⟩
  ·have hlt : i < xs.length := by
    subst hE
    have h : Env.std.ic .lss i (Env.std.len Int xs) = true := h2
    simpa using h
   have hge := hi.i0
   have g := hx.get i.toNat
   have hq := hi.step hx hn hlt rfl
   have hy : Env.std.ib .shl .u64 (Env.std.cv .u64 (Env.std.get Int xs i 0)) s = xs.getD i.toNat 0 * ((2 ^ n : Nat) : Int) := by
    rw [s_get, hs]
    exact shl64 g.1 g.2 hn
   obtain ⟨c, p1, p2, p3, p4⟩ := shl_parts g.1 g.2 hn
   have ho := hi.ok.get i.toNat
   have hc := hi.c
   have hpn : 2 ^ n <= 2 ^ 32 := Nat.pow_le_pow_right (by decide) hn
   have h32 : 2 ^ 32 = 4294967296 := by decide
   generalize xs.getD i.toNat 0 * ((2 ^ n : Nat) : Int) = y at *
   have hor : Env.std.ib .or .u32 (Env.std.get Int o i 0) (Env.std.cv .u32 (Env.std.ib .shl .u64 (Env.std.cv .u64 (Env.std.get Int xs i 0)) s)) = o.getD i.toNat 0 + y % 4294967296 := by
    rw [hy, s_get, s_cv, IntKind.wrap_u32]
    exact or32 n ho.1 hc p1 (by omega)
   have hi1 : Env.std.ib .add .i64 i 1 = i + 1 := by
    have hlt : i < (xs.length : Int) := hlt
    rw [s_add, w64 (by omega) (by omega)]
   have hhi : Env.std.cv .u32 (Env.std.ib .shr .u64 (Env.std.ib .shl .u64 (Env.std.cv .u64 (Env.std.get Int xs i 0)) s) 32) = y / 4294967296 := by
    have h : y.fdiv (2 ^ (min (32 : Int).toNat IntKind.u64.bits)) = y / 4294967296 := Int.fdiv_eq_ediv_of_nonneg _ (by decide)
    rw [hy, s_shr, h, s_cv, wu32 p3 (by omega)]
   obtain ⟨i', hi'⟩ : ∃ j, j = i + 1 := ⟨_, rfl⟩
   obtain ⟨o', ho'⟩ : ∃ j, j = (o.set i.toNat (o.getD i.toNat 0 + y % 4294967296)).set (i + 1).toNat (y / 4294967296) := ⟨_, rfl⟩
   rw [<- ho', <- hi'] at hq
   have hrow : Env.std.set Int (Env.std.set Int o i (Env.std.ib .or .u32 (Env.std.get Int o i 0) (Env.std.cv .u32 (Env.std.ib .shl .u64 (Env.std.cv .u64 (Env.std.get Int xs i 0)) s)))) (Env.std.ib .add .i64 i 1) (Env.std.cv .u32 (Env.std.ib .shr .u64 (Env.std.ib .shl .u64 (Env.std.cv .u64 (Env.std.get Int xs i 0)) s) 32)) = o' := by
    rw [hor, hhi, hi1, s_set, s_set, ho']
   have hin1 : Env.std.inb i (Env.std.ib .add .i64 (Env.std.len Int xs) 1) := by
    have hlt : i < (xs.length : Int) := hlt
    have hl1 : Env.std.ib .add .i64 (Env.std.len Int xs) 1 = (xs.length : Int) + 1 := hl1
    rw [hl1, s_inb]; omega
   have hin2 : Env.std.inb (Env.std.ib .add .i64 i 1) (Env.std.ib .add .i64 (Env.std.len Int xs) 1) := by
    have hlt : i < (xs.length : Int) := hlt
    have hl1 : Env.std.ib .add .i64 (Env.std.len Int xs) 1 = (xs.length : Int) + 1 := hl1
    rw [hl1, hi1, s_inb]; omega
   cbv
   refine ⟨by subst hE; exact ⟨hge, hlt⟩, ?_⟩
   cbv
   refine ⟨by subst hE; exact hs0, ?_⟩
   cbv
   refine ⟨by subst hE; exact hin1, ?_⟩
   cbv
   refine ⟨by subst hE; exact hin1, ?_⟩
   cbv
   refine ⟨by subst hE; simp, ?_⟩
   cbv
   refine ⟨by subst hE; exact hin2, ?_⟩
   cbv
   refine ⟨(i', o'), [0, 1, 2], hq, by have hlt : i < (xs.length : Int) := hlt; show ((xs.length : Int) - i').toNat < ((xs.length : Int) - i).toNat; omega, ?_⟩
   cbv
   subst hE
   and_intros
   all_goals first
    | exact Sm.of hrow
    | exact congrArg (fun x => AV.v (Value.int .i64 x)) (hi1.trans hi'.symm)
    | (simp; done)
    | (trace_state; fail)
  ·have he : i = xs.length := by
    subst hE
    have h : Env.std.ic .lss i (Env.std.len Int xs) = false := h2
    have h : ¬ i < (xs.length : Int) := by simpa using h
    have := hi.i1
    omega
   have q := hi.last he r1 r2 r3
   have hres : Env.std.tk Int o (Env.std.ib .add .i64 (Env.std.len Int xs) 1) = r := by
    have e : ((xs.length : Int) + 1).toNat = xs.length + 1 := by omega
    rw [hl1, s_tk, e, List.take_of_length_le (by rw [hi.len]; exact Nat.le_refl _), q]
   cbv
   subst hE
   exact Sm.of hres
theorem unshift_core (xs r : List Int) (n : Nat) (hx : Ok32 xs) (ha : xs.length <= 137438953472) (hn : n <= 32) (hr : r = lb ((val xs).toNat / 2 ^ n)) : Con Tryz.prog 244 [.ro cU xs, .v (.int .i64 n)] (.own 169 cU r) := by
 obtain ⟨s, hs⟩ : ∃ s : Int, s = n := ⟨_, rfl⟩
 have hs0 : 0 <= s := by omega
 rw [<- hs]
 refine Con.of ttOk mixed Tryz.func244 {} .nil 0 (by kernel_rfl) (fun P' E hP hE => ?_)
 have hmk : ∀ X : List Int, X.length <= 137438953472 -> Env.std.rng 0 (Env.std.len Int X) (Env.std.len Int X) /\ Env.std.fits (Env.std.len Int X) 4 := by
  intro X h
  rw [s_len, s_rng, s_fits]; omega
 obtain ⟨i0, hi0⟩ : ∃ i : Int, i = 0 := ⟨_, rfl⟩
 obtain ⟨o0, ho0⟩ : ∃ b : List Int, b = List.replicate xs.length 0 := ⟨_, rfl⟩
 have hrep : Env.std.rep Int (Env.std.len Int xs) 0 = o0 := by rw [s_rep, s_len, Int.toNat_natCast, ho0]
 have hz := NInv.zero (n := n) hi0 ho0
 clear ho0
 cbv
 refine ⟨by subst hE; exact hmk xs ha, ?_⟩
 cbv
 refine LoopTo.by (ι := Int × List Int) (fun x => [(13, .v (.int .i64 x.1))]) (fun x => [(2, .row true 169 cU x.2)]) (fun x => NInv xs n x.1 x.2) (fun x => (xs.length - x.1).toNat) (i0, o0) [] hz ?_ ?_
 ·cbv
  subst hE
  and_intros
  all_goals first
   | exact Sm.of hrep
   | exact congrArg (Value.int _) hi0.symm
   | (simp; done)
   | (trace_state; fail)
 ·rintro ⟨i, o⟩ hi
  have hi : NInv xs n i o := hi
  cbv
  refine ⟨fun h2 => ?_, fun h2 => ?_⟩
  ·have hlt : i < xs.length := by
    subst hE
    have h : Env.std.ic .lss i (Env.std.len Int xs) = true := h2
    simpa using h
   have hge := hi.i0
   have g := hx.get i.toNat
   have g1 := hx.get (i.toNat + 1)
   have hi1 : Env.std.ib .add .i64 i 1 = i + 1 := by
    have hlt : i < (xs.length : Int) := hlt
    rw [s_add, w64 (by omega) (by omega)]
   have e1 : (i + 1).toNat = i.toNat + 1 := by omega
   obtain ⟨y, hy⟩ : ∃ y, y = xs.getD i.toNat 0 + xs.getD (i.toNat + 1) 0 * 4294967296 := ⟨_, rfl⟩
   have hq := hi.step hx hn hlt hy
   have hy0 : 0 <= y := by omega
   have hsh : Env.std.cv .u32 (Env.std.ib .shr .u64 y s) = ((y.toNat / 2 ^ n % 4294967296 : Nat) : Int) := by
    rw [hs, shr64 hy0 hn, s_cv, IntKind.wrap_u32]
    generalize y.toNat / 2 ^ n = w
    omega
   obtain ⟨i', hi'⟩ : ∃ j, j = i + 1 := ⟨_, rfl⟩
   obtain ⟨o', ho'⟩ : ∃ j, j = o.set i.toNat ((y.toNat / 2 ^ n % 4294967296 : Nat) : Int) := ⟨_, rfl⟩
   rw [<- ho', <- hi'] at hq
   have hin : Env.std.inb i (Env.std.len Int xs) := by
    rw [s_inb, s_len]; exact ⟨hge, hlt⟩
   cbv
   refine ⟨by subst hE; exact hin, ?_⟩
   cbv
   refine ⟨fun h3 => ?_, fun h3 => ?_⟩
   ·have h3' : i + 1 < xs.length := by
     subst hE
     have h : Env.std.ic .lss (Env.std.ib .add .i64 i 1) (Env.std.len Int xs) = true := h3
     rw [hi1] at h
     simpa using h
    have hin2 : Env.std.inb (Env.std.ib .add .i64 i 1) (Env.std.len Int xs) := by
     rw [hi1, s_inb, s_len]; exact ⟨by omega, h3'⟩
    have hyv : Env.std.ib .or .u64 (Env.std.cv .u64 (Env.std.get Int xs i 0)) (Env.std.ib .shl .u64 (Env.std.cv .u64 (Env.std.get Int xs (Env.std.ib .add .i64 i 1) 0)) 32) = y := by
     have h2 : ((2 ^ 32 : Nat) : Int) = 4294967296 := by decide
     have h4 : Env.std.ib .shl .u64 (Env.std.cv .u64 (xs.getD (i.toNat + 1) 0)) ((32 : Nat) : Int) = xs.getD (i.toNat + 1) 0 * ((2 ^ 32 : Nat) : Int) := shl64 g1.1 g1.2 (by decide)
     have h5 : Env.std.ib .shl .u64 (Env.std.cv .u64 (xs.getD (i.toNat + 1) 0)) 32 = xs.getD (i.toNat + 1) 0 * 4294967296 := by rw [<- h2, <- h4]; rfl
     rw [hi1, s_get, s_get, e1, h5, s_cv, wu64 g.1 (by omega), hy]
     exact (or64 (a := xs.getD i.toNat 0) (b := xs.getD (i.toNat + 1) 0 * 4294967296) 32 (c := (xs.getD (i.toNat + 1) 0).toNat) g.1 (by rw [h2]; exact g.2) (by rw [Int.natCast_mul, h2]; omega) (by omega)).1
    have hrow : Env.std.set Int o i (Env.std.cv .u32 (Env.std.ib .shr .u64 (Env.std.ib .or .u64 (Env.std.cv .u64 (Env.std.get Int xs i 0)) (Env.std.ib .shl .u64 (Env.std.cv .u64 (Env.std.get Int xs (Env.std.ib .add .i64 i 1) 0)) 32)) s)) = o' := by
     rw [hyv, hsh, s_set, ho']
    cbv
    refine ⟨by subst hE; exact hin2, ?_⟩
    cbv
    refine ⟨by subst hE; simp, ?_⟩
    cbv
    refine ⟨by subst hE; exact hs0, ?_⟩
    cbv
    refine ⟨by subst hE; exact hin, ?_⟩
    cbv
    refine ⟨(i', o'), [0, 1, 2], hq, by have hlt : i < (xs.length : Int) := hlt; show ((xs.length : Int) - i').toNat < ((xs.length : Int) - i).toNat; omega, ?_⟩
    cbv
    subst hE
    and_intros
    all_goals first
     | exact Sm.of hrow
     | exact congrArg (fun x => AV.v (Value.int .i64 x)) (hi1.trans hi'.symm)
     | (simp; done)
     | (trace_state; fail)
   ·have h3' : ¬ i + 1 < xs.length := by
     subst hE
     have h : Env.std.ic .lss (Env.std.ib .add .i64 i 1) (Env.std.len Int xs) = false := h3
     rw [hi1] at h
     simpa using h
    have hyv : Env.std.cv .u64 (Env.std.get Int xs i 0) = y := by
     have h4 : xs.getD (i.toNat + 1) 0 = 0 := getD_ge (by omega)
     rw [s_get, s_cv, wu64 g.1 (by omega), hy, h4]; omega
    have hrow : Env.std.set Int o i (Env.std.cv .u32 (Env.std.ib .shr .u64 (Env.std.cv .u64 (Env.std.get Int xs i 0)) s)) = o' := by
     rw [hyv, hsh, s_set, ho']
    cbv
    refine ⟨by subst hE; exact hs0, ?_⟩
    cbv
    refine ⟨by subst hE; exact hin, ?_⟩
    cbv
    refine ⟨(i', o'), [0, 1, 2], hq, by have hlt : i < (xs.length : Int) := hlt; show ((xs.length : Int) - i').toNat < ((xs.length : Int) - i).toNat; omega, ?_⟩
    cbv
    subst hE
    and_intros
    all_goals first
     | exact Sm.of hrow
     | exact congrArg (fun x => AV.v (Value.int .i64 x)) (hi1.trans hi'.symm)
     | (simp; done)
     | (trace_state; fail)
  ·have he : i = xs.length := by
    subst hE
    have h : Env.std.ic .lss i (Env.std.len Int xs) = false := h2
    have h : ¬ i < (xs.length : Int) := by simpa using h
    have := hi.i1
    omega
   have q := hi.last hx he
   have hc := trim_con o (by rw [hi.len]; omega)
   obtain ⟨m, hm⟩ : ∃ n, n = tlen o := ⟨_, rfl⟩
   rw [<- hm] at hc
   have hrow : Env.std.tk Int o (Env.std.len Int xs) = o := by
    rw [s_tk, s_len, List.take_of_length_le (by rw [hi.len]; omega)]
   have hres : Env.std.tk Int o m = r := by
    rw [s_tk, hm, Int.toNat_natCast, take_tlen hi.ok, q, hr, Int.toNat_natCast]
   cbv
   refine CallTo.con hP hE hc ?_ ?_
   ·subst hE
    exact ⟨Sm.of hrow, trivial⟩
   ·cbv
    subst hE
    exact Sm.of hres
end Go.Proofs.YtfdealobplcboaaGreat.Sx
