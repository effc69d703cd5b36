/- Part 9 of what the statement needs: an executor of Go texts, arithmetic, and contracts of the functions that are called. -/
import Derived.Test.YtfdealobplcboaaGreatCu6
import Derived.Test.YtfdealobplcboaaGreatCu8
set_option linter.unusedVariables false
set_option linter.unusedSimpArgs false
set_option maxHeartbeats 4000000
namespace Go.Proofs.YtfdealobplcboaaGreat.Sx
theorem ok_ext : ∀ {xs ys : List Int}, Ok32 xs -> Ok32 ys -> xs.length = ys.length -> val xs = val ys -> xs = ys
 | [], [], _, _, _, _ => rfl
 | [], _ :: _, _, _, h, _ => by cases h
 | _ :: _, [], _, _, h, _ => by cases h
 | x :: xs, y :: ys, hx, hy, hl, hv => by
  simp only [val] at hv
  have h1 := hx.head
  have h2 := hy.head
  have h3 : x = y := by omega
  have h4 : val xs = val ys := by omega
  rw [h3, ok_ext hx.tail hy.tail (by simpa using hl) h4]
structure HInv (X : List Int) (n : Nat) (i : Int) (o : List Int) : Prop where
 i0 : 0 <= i
 i1 : i <= X.length
 len : o.length = X.length + 1
 ok : Ok32 o
 z : ∀ j : Nat, i.toNat < j -> o.getD j 0 = 0
 c : o.getD i.toNat 0 < ((2 ^ n : Nat) : Int)
 v : val o = val (X.take i.toNat) * ((2 ^ n : Nat) : Int)
theorem HInv.zero {X : List Int} {n : Nat} {i : Int} {o : List Int} (hi : i = 0) (ho : o = List.replicate (X.length + 1) 0) : HInv X n i o := by
 subst hi; subst ho
 have : 0 < 2 ^ n := Nat.pow_pos (by decide)
 exact ⟨by omega, by omega, by simp, .rep _, fun j _ => rep_getD _ _, by rw [rep_getD]; omega, by rw [val_rep]; simp [val]⟩
/-- What a limb that is shifted falls into. -/
theorem shl_parts {x : Int} {n : Nat} (x0 : 0 <= x) (x1 : x < 4294967296) (hn : n <= 32) : ∃ c : Nat, x * ((2 ^ n : Nat) : Int) % 4294967296 = ((2 ^ n * c : Nat) : Int) /\ 2 ^ n * c + 2 ^ n <= 4294967296 /\ 0 <= x * ((2 ^ n : Nat) : Int) / 4294967296 /\ x * ((2 ^ n : Nat) : Int) / 4294967296 < ((2 ^ n : Nat) : Int) := by
 have hp : 0 < 2 ^ n := Nat.pow_pos (by decide)
 have hq : 0 < 2 ^ (32 - n) := Nat.pow_pos (by decide)
 have hpq : 2 ^ n * 2 ^ (32 - n) = 4294967296 := by
  rw [<- Nat.pow_add]
  have : n + (32 - n) = 32 := by omega
  rw [this]
 obtain ⟨y, rfl⟩ : ∃ y : Nat, x = y := ⟨x.toNat, by omega⟩
 refine ⟨y % 2 ^ (32 - n), ?_, ?_, ?_, ?_⟩
 ·rw [<- Nat.mul_mod_mul_left, hpq, Nat.mul_comm (2 ^ n)]; rfl
 ·have h : y % 2 ^ (32 - n) + 1 <= 2 ^ (32 - n) := Nat.mod_lt _ hq
  calc 2 ^ n * (y % 2 ^ (32 - n)) + 2 ^ n = 2 ^ n * (y % 2 ^ (32 - n) + 1) := by rw [Nat.mul_add, Nat.mul_one]
   _ <= 2 ^ n * 2 ^ (32 - n) := Nat.mul_le_mul_left _ h
   _ = 4294967296 := hpq
 ·exact Int.ediv_nonneg (Int.mul_nonneg x0 (by omega)) (by decide)
 ·refine Int.ediv_lt_of_lt_mul (by decide) ?_
  rw [Int.mul_comm]
  exact Int.mul_lt_mul_of_pos_left x1 (by omega)
theorem HInv.step {X : List Int} (hX : Ok32 X) {n : Nat} (hn : n <= 32) {i y : Int} {o : List Int} (h : HInv X n i o) (hi : i < X.length) (hy : y = X.getD i.toNat 0 * ((2 ^ n : Nat) : Int)) :
  HInv X n (i + 1) ((o.set i.toNat (o.getD i.toNat 0 + y % 4294967296)).set (i + 1).toNat (y / 4294967296)) := by
 have hx := hX.get i.toNat
 have ho := h.ok.get i.toNat
 have hi0 := h.i0
 have hc := h.c
 obtain ⟨c, h1, h2, h3, h4⟩ := shl_parts hx.1 hx.2 hn
 rw [<- hy] at h1 h3 h4
 have e : (i + 1).toNat = i.toNat + 1 := by omega
 have hlt : i.toNat < o.length := by rw [h.len]; omega
 have hlt2 : i.toNat + 1 < (o.set i.toNat (o.getD i.toNat 0 + y % 4294967296)).length := by rw [List.length_set, h.len]; omega
 have hpn : 2 ^ n <= 2 ^ 32 := Nat.pow_le_pow_right (by decide) hn
 have h32 : 2 ^ 32 = 4294967296 := by decide
 have hlow : o.getD i.toNat 0 + y % 4294967296 < 4294967296 := by omega
 rw [e]
 refine ⟨by omega, by omega, by rw [List.length_set, List.length_set, h.len], (h.ok.set (by omega) hlow _).set h3 (by omega) _, fun j hj => ?_, ?_, ?_⟩
 ·rw [getD_set hlt2, if_neg (by omega), getD_set hlt, if_neg (by omega)]
  exact h.z j (by omega)
 ·rw [e, getD_set hlt2, if_pos rfl]
  exact h4
 ·have hv := h.v
  rw [val_set _ _ _ hlt2, val_set _ _ _ hlt, getD_set hlt, if_neg (by omega), h.z _ (Nat.lt_succ_self _), e, val_take_succ, Int.pow_succ]
  have hs : y = 4294967296 * (y / 4294967296) + y % 4294967296 := by omega
  generalize y / 4294967296 = q at *
  generalize y % 4294967296 = m at *
  generalize X.getD i.toNat 0 = x at *
  generalize (4294967296 : Int) ^ i.toNat = p at *
  grind
theorem HInv.last {X r : List Int} {n : Nat} {i : Int} {o : List Int} (h : HInv X n i o) (hi : i = X.length) (r1 : Ok32 r) (r2 : r.length = X.length + 1) (r3 : val r = val X * ((2 ^ n : Nat) : Int)) : o = r := by
 have hv := h.v
 rw [List.take_of_length_le (by omega)] at hv
 exact ok_ext h.ok r1 (by rw [h.len, r2]) (by rw [hv, r3])
structure NInv (X : List Int) (n : Nat) (i : Int) (o : List Int) : Prop where
 i0 : 0 <= i
 i1 : i <= X.length
 len : o.length = X.length
 ok : Ok32 o
 z : ∀ j : Nat, i.toNat <= j -> o.getD j 0 = 0
 v : val o = ((val X).toNat / 2 ^ n % 4294967296 ^ i.toNat : Nat)
theorem NInv.zero {X : List Int} {n : Nat} {i : Int} {o : List Int} (hi : i = 0) (ho : o = List.replicate X.length 0) : NInv X n i o := by
 subst hi; subst ho
 exact ⟨by omega, by omega, by simp, .rep _, fun j _ => rep_getD _ _, by rw [val_rep]; simp [Nat.mod_one]⟩
/-- A limb of a number that was shifted. -/
theorem shr_limb {X : List Int} (hX : Ok32 X) {n i : Nat} (hn : n <= 32) : (val X).toNat / 2 ^ n / 4294967296 ^ i % 4294967296 = (X.getD i 0 + X.getD (i + 1) 0 * 4294967296).toNat / 2 ^ n % 4294967296 := by
 have hp : 0 < 2 ^ n := Nat.pow_pos (by decide)
 have h1 : val X = val (X.take i) + 4294967296 ^ i * (X.getD i 0 + 4294967296 * X.getD (i + 1) 0) + 4294967296 ^ i * (4294967296 * 4294967296) * val (X.drop (i + 2)) := by
  by_cases c : i + 2 <= X.length
  ·have a := val_split c
   have b : val (X.take (i + 2)) = val (X.take i) + 4294967296 ^ i * X.getD i 0 + 4294967296 ^ (i + 1) * X.getD (i + 1) 0 := by
    rw [val_take_succ (i := i + 1), val_take_succ]
   rw [a, b, Int.pow_succ, Int.pow_succ]
   grind
  ·have b : val (X.take (i + 2)) = val (X.take i) + 4294967296 ^ i * X.getD i 0 + 4294967296 ^ (i + 1) * X.getD (i + 1) 0 := by
    rw [val_take_succ (i := i + 1), val_take_succ]
   rw [List.take_of_length_le (by omega)] at b
   have d : X.drop (i + 2) = [] := List.drop_eq_nil_of_le (by omega)
   rw [b, d, Int.pow_succ]
   simp only [val]
   grind
 have g0 := hX.get i
 have g1 := hX.get (i + 1)
 have t0 := val_nonneg (hX.take i)
 have t1 := val_lt (hX.take i)
 have d0 := val_nonneg (hX.drop (i + 2))
 have t2 : val (X.take i) < 4294967296 ^ i := by
  have : (4294967296 : Int) ^ (X.take i).length <= 4294967296 ^ i := pow_mono32 (by rw [List.length_take]; omega)
  omega
 obtain ⟨a, ha⟩ : ∃ a : Nat, val (X.take i) = a := ⟨(val (X.take i)).toNat, by omega⟩
 obtain ⟨w, hw⟩ : ∃ a : Nat, X.getD i 0 + X.getD (i + 1) 0 * 4294967296 = a := ⟨(X.getD i 0 + X.getD (i + 1) 0 * 4294967296).toNat, by omega⟩
 obtain ⟨d, hd⟩ : ∃ a : Nat, val (X.drop (i + 2)) = a := ⟨(val (X.drop (i + 2))).toNat, by omega⟩
 have h2 : (val X).toNat = a + 4294967296 ^ i * (w + 4294967296 * 4294967296 * d) := by
  have e : val X = ((a + 4294967296 ^ i * (w + 4294967296 * 4294967296 * d) : Nat) : Int) := by
   have e1 : X.getD i 0 + 4294967296 * X.getD (i + 1) 0 = w := by rw [<- hw, Int.mul_comm]
   have c : ((4294967296 ^ i : Nat) : Int) = 4294967296 ^ i := by simp
   rw [h1, ha, hd, e1]
   simp only [Int.natCast_add, Int.natCast_mul, c]
   generalize (4294967296 : Int) ^ i = p
   grind
  omega
 have hB : 0 < 4294967296 ^ i := Nat.pow_pos (by decide)
 have ha' : a < 4294967296 ^ i := by
  have : ((4294967296 ^ i : Nat) : Int) = 4294967296 ^ i := by simp
  omega
 have h3 : (val X).toNat / 4294967296 ^ i = w + 4294967296 * 4294967296 * d := by
  rw [h2, Nat.add_mul_div_left _ _ hB, Nat.div_eq_of_lt ha', Nat.zero_add]
 have hpq : 2 ^ n * 2 ^ (32 - n) = 4294967296 := by
  rw [<- Nat.pow_add]
  have : n + (32 - n) = 32 := by omega
  rw [this]
 rw [hw, Nat.div_div_eq_div_mul, Nat.mul_comm, <- Nat.div_div_eq_div_mul, h3]
 have h4 : w + 4294967296 * 4294967296 * d = w + 2 ^ n * (4294967296 * (2 ^ (32 - n) * d)) := by
  have : 4294967296 * 4294967296 * d = 2 ^ n * 2 ^ (32 - n) * (4294967296 * d) := by rw [hpq, Nat.mul_assoc]
  rw [this]; grind
 rw [h4, Nat.add_mul_div_left _ _ hp, Nat.add_mul_mod_self_left]
 simp
theorem NInv.step {X : List Int} (hX : Ok32 X) {n : Nat} (hn : n <= 32) {i y : Int} {o : List Int} (h : NInv X n i o) (hi : i < X.length) (hy : y = X.getD i.toNat 0 + X.getD (i.toNat + 1) 0 * 4294967296) :
  NInv X n (i + 1) (o.set i.toNat ((y.toNat / 2 ^ n % 4294967296 : Nat))) := by
 have hi0 := h.i0
 have e : (i + 1).toNat = i.toNat + 1 := by omega
 have hlt : i.toNat < o.length := by rw [h.len]; omega
 have hm : y.toNat / 2 ^ n % 4294967296 < 4294967296 := Nat.mod_lt _ (by decide)
 refine ⟨by omega, by omega, by rw [List.length_set, h.len], h.ok.set (by omega) (by omega) _, fun j hj => ?_, ?_⟩
 ·rw [getD_set hlt, if_neg (by omega)]
  exact h.z j (by omega)
 ·have hv := h.v
  rw [val_set _ _ _ hlt, h.z _ (Nat.le_refl _), e, hv, Nat.pow_succ, Nat.mod_mul, shr_limb hX hn, <- hy]
  have c : ((4294967296 ^ i.toNat : Nat) : Int) = 4294967296 ^ i.toNat := by simp
  simp only [Int.natCast_add, Int.natCast_mul, c]
  generalize (4294967296 : Int) ^ i.toNat = p
  grind
theorem NInv.last {X : List Int} (hX : Ok32 X) {n : Nat} {i : Int} {o : List Int} (h : NInv X n i o) (hi : i = X.length) : val o = ((val X).toNat / 2 ^ n : Nat) := by
 have hv := h.v
 have h0 := val_nonneg hX
 have h1 := val_lt hX
 have e : i.toNat = X.length := by omega
 rw [e, Nat.mod_eq_of_lt] at hv
 ·exact hv
 ·have : ((4294967296 ^ X.length : Nat) : Int) = 4294967296 ^ X.length := by simp
  have h2 : (val X).toNat / 2 ^ n <= (val X).toNat := Nat.div_le_self _ _
  omega
end Go.Proofs.YtfdealobplcboaaGreat.Sx

set_option linter.unusedVariables false
set_option linter.unusedSimpArgs false
set_option maxRecDepth 100000
set_option maxHeartbeats 4000000
namespace Go.Proofs.YtfdealobplcboaaGreat.Sx
theorem shl64 {x : Int} {n : Nat} (x0 : 0 <= x) (x1 : x < 4294967296) (hn : n <= 32) : Env.std.ib .shl .u64 (Env.std.cv .u64 x) (n : Int) = x * ((2 ^ n : Nat) : Int) := by
 have hpn : 2 ^ n <= 2 ^ 32 := Nat.pow_le_pow_right (by decide) hn
 have h32 : 2 ^ 32 = 4294967296 := by decide
 have h0 : 0 <= x * ((2 ^ n : Nat) : Int) := Int.mul_nonneg x0 (Int.natCast_nonneg _)
 have h1 : x * ((2 ^ n : Nat) : Int) <= 4294967295 * 4294967296 := Int.mul_le_mul (by omega) (by omega) (Int.natCast_nonneg _) (by decide)
 have hm : min ((n : Int).toNat) IntKind.u64.bits = n := by show min ((n : Int).toNat) 64 = n; omega
 have hc : (2 : Int) ^ n = ((2 ^ n : Nat) : Int) := by simp
 rw [s_cv, wu64 x0 (by omega), s_shl, hm, hc, wu64 h0 (by omega)]
theorem shr64 {x : Int} {n : Nat} (x0 : 0 <= x) (hn : n <= 32) : Env.std.ib .shr .u64 x (n : Int) = ((x.toNat / 2 ^ n : Nat) : Int) := by
 have hm : min ((n : Int).toNat) IntKind.u64.bits = n := by show min ((n : Int).toNat) 64 = n; omega
 have hc : (2 : Int) ^ n = ((2 ^ n : Nat) : Int) := by simp
 have h : (x.toNat : Int) = x := by omega
 rw [s_shr, hm, hc, Int.fdiv_eq_ediv_of_nonneg _ (Int.natCast_nonneg _), Int.natCast_ediv, h]
theorem shift_core (xs r : List Int) (n : Nat) (hx : Ok32 xs) (ha : xs.length <= 137438953472) (hn : n <= 32) (r1 : Ok32 r) (r2 : r.length = xs.length + 1) (r3 : val r = val xs * ((2 ^ n : Nat) : Int)) : Con Tryz.prog 242 [.ro cU xs, .v (.int .i64 n)] (.own 169 cU r) := by
 obtain ⟨s, hs⟩ : ∃ s : Int, s = n := ⟨_, rfl⟩
 have hs0 : 0 <= s := by omega
 rw [<- hs]
 refine Con.of ttOk mixed Tryz.func242 {} .nil 0 (by kernel_rfl) (fun P' E hP hE => ?_)
 have hl1 : Env.std.ib .add .i64 (Env.std.len Int xs) 1 = (xs.length : Int) + 1 := by
  rw [s_add, s_len, w64 (by omega) (by omega)]
 have hmk : Env.std.rng 0 (Env.std.ib .add .i64 (Env.std.len Int xs) 1) (Env.std.ib .add .i64 (Env.std.len Int xs) 1) /\ Env.std.fits (Env.std.ib .add .i64 (Env.std.len Int xs) 1) 4 := by
  rw [hl1, s_rng, s_fits]; omega
 obtain ⟨i0, hi0⟩ : ∃ i : Int, i = 0 := ⟨_, rfl⟩
 obtain ⟨o0, ho0⟩ : ∃ b : List Int, b = List.replicate (xs.length + 1) 0 := ⟨_, rfl⟩
 have hrep : Env.std.rep Int (Env.std.ib .add .i64 (Env.std.len Int xs) 1) 0 = o0 := by
  have e : ((xs.length : Int) + 1).toNat = xs.length + 1 := by omega
  rw [hl1, s_rep, e, ho0]
 have hz := HInv.zero (n := n) hi0 ho0
 clear ho0
 cbv
 refine ⟨by subst hE; exact hmk, ?_⟩
 cbv
 refine LoopTo.by (ι := Int × List Int) (fun x => [(15, .v (.int .i64 x.1))]) (fun x => [(2, .row true 169 cU x.2)]) (fun x => HInv xs n x.1 x.2) (fun x => (xs.length - x.1).toNat) (i0, o0) [] hz ?_ ?_
 ·cbv
  subst hE
  and_intros
  all_goals first
   | exact Sm.of hrep
   | exact congrArg (Value.int _) hi0.symm
   | (simp; done)
   | (trace_state; fail)
 ·rintro ⟨i, o⟩ hi
  have hi : HInv xs n i o := hi
  cbv
  refine ⟨fun h2 => ?_, fun h2 => ?_⟩
  ·have hlt : i < xs.length := by
    subst hE
    have h : Env.std.ic .lss i (Env.std.len Int xs) = true := h2
    simpa using h
   have hge := hi.i0
   have g := hx.get i.toNat
   have hq := hi.step hx hn hlt rfl
   have hy : Env.std.ib .shl .u64 (Env.std.cv .u64 (Env.std.get Int xs i 0)) s = xs.getD i.toNat 0 * ((2 ^ n : Nat) : Int) := by
    rw [s_get, hs]
    exact shl64 g.1 g.2 hn
   obtain ⟨c, p1, p2, p3, p4⟩ := shl_parts g.1 g.2 hn
   have ho := hi.ok.get i.toNat
   have hc := hi.c
   have hpn : 2 ^ n <= 2 ^ 32 := Nat.pow_le_pow_right (by decide) hn
   have h32 : 2 ^ 32 = 4294967296 := by decide
   generalize xs.getD i.toNat 0 * ((2 ^ n : Nat) : Int) = y at *
   have hor : Env.std.ib .or .u32 (Env.std.get Int o i 0) (Env.std.cv .u32 (Env.std.ib .shl .u64 (Env.std.cv .u64 (Env.std.get Int xs i 0)) s)) = o.getD i.toNat 0 + y % 4294967296 := by
    rw [hy, s_get, s_cv, IntKind.wrap_u32]
    exact or32 n ho.1 hc p1 (by omega)
   have hi1 : Env.std.ib .add .i64 i 1 = i + 1 := by
    have hlt : i < (xs.length : Int) := hlt
    rw [s_add, w64 (by omega) (by omega)]
   have hhi : Env.std.cv .u32 (Env.std.ib .shr .u64 (Env.std.ib .shl .u64 (Env.std.cv .u64 (Env.std.get Int xs i 0)) s) 32) = y / 4294967296 := by
    have h : y.fdiv (2 ^ (min (32 : Int).toNat IntKind.u64.bits)) = y / 4294967296 := Int.fdiv_eq_ediv_of_nonneg _ (by decide)
    rw [hy, s_shr, h, s_cv, wu32 p3 (by omega)]
   obtain ⟨i', hi'⟩ : ∃ j, j = i + 1 := ⟨_, rfl⟩
   obtain ⟨o', ho'⟩ : ∃ j, j = (o.set i.toNat (o.getD i.toNat 0 + y % 4294967296)).set (i + 1).toNat (y / 4294967296) := ⟨_, rfl⟩
   rw [<- ho', <- hi'] at hq
   have hrow : Env.std.set Int (Env.std.set Int o i (Env.std.ib .or .u32 (Env.std.get Int o i 0) (Env.std.cv .u32 (Env.std.ib .shl .u64 (Env.std.cv .u64 (Env.std.get Int xs i 0)) s)))) (Env.std.ib .add .i64 i 1) (Env.std.cv .u32 (Env.std.ib .shr .u64 (Env.std.ib .shl .u64 (Env.std.cv .u64 (Env.std.get Int xs i 0)) s) 32)) = o' := by
    rw [hor, hhi, hi1, s_set, s_set, ho']
   have hin1 : Env.std.inb i (Env.std.ib .add .i64 (Env.std.len Int xs) 1) := by
    have hlt : i < (xs.length : Int) := hlt
    have hl1 : Env.std.ib .add .i64 (Env.std.len Int xs) 1 = (xs.length : Int) + 1 := hl1
    rw [hl1, s_inb]; omega
   have hin2 : Env.std.inb (Env.std.ib .add .i64 i 1) (Env.std.ib .add .i64 (Env.std.len Int xs) 1) := by
    have hlt : i < (xs.length : Int) := hlt
    have hl1 : Env.std.ib .add .i64 (Env.std.len Int xs) 1 = (xs.length : Int) + 1 := hl1
    rw [hl1, hi1, s_inb]; omega
   cbv
   refine ⟨by subst hE; exact ⟨hge, hlt⟩, ?_⟩
   cbv
   refine ⟨by subst hE; exact hs0, ?_⟩
   cbv
   refine ⟨by subst hE; exact hin1, ?_⟩
   cbv
   refine ⟨by subst hE; exact hin1, ?_⟩
   cbv
   refine ⟨by subst hE; simp, ?_⟩
   cbv
   refine ⟨by subst hE; exact hin2, ?_⟩
   cbv
   refine ⟨(i', o'), [0, 1, 2], hq, by have hlt : i < (xs.length : Int) := hlt; show ((xs.length : Int) - i').toNat < ((xs.length : Int) - i).toNat; omega, ?_⟩
   cbv
   subst hE
   and_intros
   all_goals first
    | exact Sm.of hrow
    | exact congrArg (fun x => AV.v (Value.int .i64 x)) (hi1.trans hi'.symm)
    | (simp; done)
    | (trace_state; fail)
  ·have he : i = xs.length := by
    subst hE
    have h : Env.std.ic .lss i (Env.std.len Int xs) = false := h2
    have h : ¬ i < (xs.length : Int) := by simpa using h
    have := hi.i1
    omega
   have q := hi.last he r1 r2 r3
   have hres : Env.std.tk Int o (Env.std.ib .add .i64 (Env.std.len Int xs) 1) = r := by
    have e : ((xs.length : Int) + 1).toNat = xs.length + 1 := by omega
    rw [hl1, s_tk, e, List.take_of_length_le (by rw [hi.len]; exact Nat.le_refl _), q]
   cbv
   subst hE
   exact Sm.of hres
theorem unshift_core (xs r : List Int) (n : Nat) (hx : Ok32 xs) (ha : xs.length <= 137438953472) (hn : n <= 32) (hr : r = lb ((val xs).toNat / 2 ^ n)) : Con Tryz.prog 244 [.ro cU xs, .v (.int .i64 n)] (.own 169 cU r) := by
 obtain ⟨s, hs⟩ : ∃ s : Int, s = n := ⟨_, rfl⟩
 have hs0 : 0 <= s := by omega
 rw [<- hs]
 refine Con.of ttOk mixed Tryz.func244 {} .nil 0 (by kernel_rfl) (fun P' E hP hE => ?_)
 have hmk : ∀ X : List Int, X.length <= 137438953472 -> Env.std.rng 0 (Env.std.len Int X) (Env.std.len Int X) /\ Env.std.fits (Env.std.len Int X) 4 := by
  intro X h
  rw [s_len, s_rng, s_fits]; omega
 obtain ⟨i0, hi0⟩ : ∃ i : Int, i = 0 := ⟨_, rfl⟩
 obtain ⟨o0, ho0⟩ : ∃ b : List Int, b = List.replicate xs.length 0 := ⟨_, rfl⟩
 have hrep : Env.std.rep Int (Env.std.len Int xs) 0 = o0 := by rw [s_rep, s_len, Int.toNat_natCast, ho0]
 have hz := NInv.zero (n := n) hi0 ho0
 clear ho0
 cbv
 refine ⟨by subst hE; exact hmk xs ha, ?_⟩
 cbv
 refine LoopTo.by (ι := Int × List Int) (fun x => [(13, .v (.int .i64 x.1))]) (fun x => [(2, .row true 169 cU x.2)]) (fun x => NInv xs n x.1 x.2) (fun x => (xs.length - x.1).toNat) (i0, o0) [] hz ?_ ?_
 ·cbv
  subst hE
  and_intros
  all_goals first
   | exact Sm.of hrep
   | exact congrArg (Value.int _) hi0.symm
   | (simp; done)
   | (trace_state; fail)
 ·rintro ⟨i, o⟩ hi
  have hi : NInv xs n i o := hi
  cbv
  refine ⟨fun h2 => ?_, fun h2 => ?_⟩
  ·have hlt : i < xs.length := by
    subst hE
    have h : Env.std.ic .lss i (Env.std.len Int xs) = true := h2
    simpa using h
   have hge := hi.i0
   have g := hx.get i.toNat
   have g1 := hx.get (i.toNat + 1)
   have hi1 : Env.std.ib .add .i64 i 1 = i + 1 := by
    have hlt : i < (xs.length : Int) := hlt
    rw [s_add, w64 (by omega) (by omega)]
   have e1 : (i + 1).toNat = i.toNat + 1 := by omega
   obtain ⟨y, hy⟩ : ∃ y, y = xs.getD i.toNat 0 + xs.getD (i.toNat + 1) 0 * 4294967296 := ⟨_, rfl⟩
   have hq := hi.step hx hn hlt hy
   have hy0 : 0 <= y := by omega
   have hsh : Env.std.cv .u32 (Env.std.ib .shr .u64 y s) = ((y.toNat / 2 ^ n % 4294967296 : Nat) : Int) := by
    rw [hs, shr64 hy0 hn, s_cv, IntKind.wrap_u32]
    generalize y.toNat / 2 ^ n = w
    omega
   obtain ⟨i', hi'⟩ : ∃ j, j = i + 1 := ⟨_, rfl⟩
   obtain ⟨o', ho'⟩ : ∃ j, j = o.set i.toNat ((y.toNat / 2 ^ n % 4294967296 : Nat) : Int) := ⟨_, rfl⟩
   rw [<- ho', <- hi'] at hq
   have hin : Env.std.inb i (Env.std.len Int xs) := by
    rw [s_inb, s_len]; exact ⟨hge, hlt⟩
   cbv
   refine ⟨by subst hE; exact hin, ?_⟩
   cbv
   refine ⟨fun h3 => ?_, fun h3 => ?_⟩
   ·have h3' : i + 1 < xs.length := by
     subst hE
     have h : Env.std.ic .lss (Env.std.ib .add .i64 i 1) (Env.std.len Int xs) = true := h3
     rw [hi1] at h
     simpa using h
    have hin2 : Env.std.inb (Env.std.ib .add .i64 i 1) (Env.std.len Int xs) := by
     rw [hi1, s_inb, s_len]; exact ⟨by omega, h3'⟩
    have hyv : Env.std.ib .or .u64 (Env.std.cv .u64 (Env.std.get Int xs i 0)) (Env.std.ib .shl .u64 (Env.std.cv .u64 (Env.std.get Int xs (Env.std.ib .add .i64 i 1) 0)) 32) = y := by
     have h2 : ((2 ^ 32 : Nat) : Int) = 4294967296 := by decide
     have h4 : Env.std.ib .shl .u64 (Env.std.cv .u64 (xs.getD (i.toNat + 1) 0)) ((32 : Nat) : Int) = xs.getD (i.toNat + 1) 0 * ((2 ^ 32 : Nat) : Int) := shl64 g1.1 g1.2 (by decide)
     have h5 : Env.std.ib .shl .u64 (Env.std.cv .u64 (xs.getD (i.toNat + 1) 0)) 32 = xs.getD (i.toNat + 1) 0 * 4294967296 := by rw [<- h2, <- h4]; rfl
     rw [hi1, s_get, s_get, e1, h5, s_cv, wu64 g.1 (by omega), hy]
     exact (or64 (a := xs.getD i.toNat 0) (b := xs.getD (i.toNat + 1) 0 * 4294967296) 32 (c := (xs.getD (i.toNat + 1) 0).toNat) g.1 (by rw [h2]; exact g.2) (by rw [Int.natCast_mul, h2]; omega) (by omega)).1
    have hrow : Env.std.set Int o i (Env.std.cv .u32 (Env.std.ib .shr .u64 (Env.std.ib .or .u64 (Env.std.cv .u64 (Env.std.get Int xs i 0)) (Env.std.ib .shl .u64 (Env.std.cv .u64 (Env.std.get Int xs (Env.std.ib .add .i64 i 1) 0)) 32)) s)) = o' := by
     rw [hyv, hsh, s_set, ho']
    cbv
    refine ⟨by subst hE; exact hin2, ?_⟩
    cbv
    refine ⟨by subst hE; simp, ?_⟩
    cbv
    refine ⟨by subst hE; exact hs0, ?_⟩
    cbv
    refine ⟨by subst hE; exact hin, ?_⟩
    cbv
    refine ⟨(i', o'), [0, 1, 2], hq, by have hlt : i < (xs.length : Int) := hlt; show ((xs.length : Int) - i').toNat < ((xs.length : Int) - i).toNat; omega, ?_⟩
    cbv
    subst hE
    and_intros
    all_goals first
     | exact Sm.of hrow
     | exact congrArg (fun x => AV.v (Value.int .i64 x)) (hi1.trans hi'.symm)
     | (simp; done)
     | (trace_state; fail)
   ·have h3' : ¬ i + 1 < xs.length := by
     subst hE
     have h : Env.std.ic .lss (Env.std.ib .add .i64 i 1) (Env.std.len Int xs) = false := h3
     rw [hi1] at h
     simpa using h
    have hyv : Env.std.cv .u64 (Env.std.get Int xs i 0) = y := by
     have h4 : xs.getD (i.toNat + 1) 0 = 0 := getD_ge (by omega)
     rw [s_get, s_cv, wu64 g.1 (by omega), hy, h4]; omega
    have hrow : Env.std.set Int o i (Env.std.cv .u32 (Env.std.ib .shr .u64 (Env.std.cv .u64 (Env.std.get Int xs i 0)) s)) = o' := by
     rw [hyv, hsh, s_set, ho']
    cbv
    refine ⟨by subst hE; exact hs0, ?_⟩
    cbv
    refine ⟨by subst hE; exact hin, ?_⟩
    cbv
    refine ⟨(i', o'), [0, 1, 2], hq, by have hlt : i < (xs.length : Int) := hlt; show ((xs.length : Int) - i').toNat < ((xs.length : Int) - i).toNat; omega, ?_⟩
    cbv
    subst hE
    and_intros
    all_goals first
     | exact Sm.of hrow
     | exact congrArg (fun x => AV.v (Value.int .i64 x)) (hi1.trans hi'.symm)
     | (simp; done)
     | (trace_state; fail)
  ·have he : i = xs.length := by
    subst hE
    have h : Env.std.ic .lss i (Env.std.len Int xs) = false := h2
    have h : ¬ i < (xs.length : Int) := by simpa using h
    have := hi.i1
    omega
   have q := hi.last hx he
   have hc := trim_con o (by rw [hi.len]; omega)
   obtain ⟨m, hm⟩ : ∃ n, n = tlen o := ⟨_, rfl⟩
   rw [<- hm] at hc
   have hrow : Env.std.tk Int o (Env.std.len Int xs) = o := by
    rw [s_tk, s_len, List.take_of_length_le (by rw [hi.len]; omega)]
   have hres : Env.std.tk Int o m = r := by
    rw [s_tk, hm, Int.toNat_natCast, take_tlen hi.ok, q, hr, Int.toNat_natCast]
   cbv
   refine CallTo.con hP hE hc ?_ ?_
   ·subst hE
    exact ⟨Sm.of hrow, trivial⟩
   ·cbv
    subst hE
    exact Sm.of hres
end Go.Proofs.YtfdealobplcboaaGreat.Sx

set_option linter.unusedVariables false
set_option linter.unusedSimpArgs false
set_option maxHeartbeats 4000000
namespace Go.Proofs.YtfdealobplcboaaGreat.Sx
structure DG (N D W Y top u2 v1 v2 p low vl : Int) : Prop where
 p0 : 0 < p
 l0 : 0 <= low
 l1 : low < p
 w0 : 0 <= vl
 w1 : vl < p
 eN : N = W * p + low
 eD : D = Y * p + vl
 eW : W = top * 4294967296 + u2
 eY : Y = v1 * 4294967296 + v2
 u0 : 0 <= u2
 u1 : u2 < 4294967296
 v20 : 0 <= v2
 v21 : v2 < 4294967296
 v10 : 1 <= v1
 v11 : v1 < 4294967296
 t0 : 0 <= top
 t1 : top < 18446744073709551616
 lt : N < 4294967296 * D
section
variable {N D W Y top u2 v1 v2 p low vl : Int}
theorem DG.D0 (h : DG N D W Y top u2 v1 v2 p low vl) : 0 < D /\ 4294967296 * p <= D := by
 have h1 := h.p0
 have h2 := h.w0
 have h3 : 4294967296 <= Y := by have := h.eY; have := h.v10; have := h.v20; omega
 have h4 : 4294967296 * p <= Y * p := Int.mul_le_mul_of_nonneg_right h3 (by omega)
 have h5 := h.eD
 omega
theorem DG.q (h : DG N D W Y top u2 v1 v2 p low vl) : 0 <= N / D /\ N / D < 4294967296 /\ N / D * Y <= W := by
 have hD := h.D0.1
 have hp := h.p0
 have hW0 : 0 <= W := by have := h.eW; have := h.t0; have := h.u0; omega
 have hN0 : 0 <= N := by
  have := h.eN; have := h.l0
  have : 0 <= W * p := Int.mul_nonneg hW0 (by omega)
  omega
 have q0 : 0 <= N / D := Int.ediv_nonneg hN0 (by omega)
 refine ⟨q0, Int.ediv_lt_of_lt_mul hD h.lt, ?_⟩
 have h1 : N / D * D <= N := Int.ediv_mul_le _ (by omega)
 generalize N / D = q at *
 have h2 : q * Y * p <= q * D := by
  rw [h.eD, Int.mul_add, Int.mul_assoc]
  have := Int.mul_nonneg q0 h.w0
  omega
 have h3 : q * Y * p < (W + 1) * p := by
  have := h.eN; have := h.l1
  have e : (W + 1) * p = W * p + p := by rw [Int.add_mul, Int.one_mul]
  omega
 have h4 := Int.lt_of_mul_lt_mul_right h3 (by omega)
 omega
theorem DG.first (h : DG N D W Y top u2 v1 v2 p low vl) : N / D <= top / v1 /\ 0 <= top / v1 /\ top / v1 < 18446744073709551616 /\ top / v1 * v1 + top % v1 = top /\ 0 <= top % v1 := by
 obtain ⟨q0, q1, q2⟩ := h.q
 have h1 := h.v10
 have h2 := h.v20
 have ht := h.t0
 have ht1 := h.t1
 generalize N / D = q at *
 refine ⟨?_, Int.ediv_nonneg ht (by omega), ?_, ?_, Int.emod_nonneg _ (by omega)⟩
 ·refine Int.le_ediv_of_mul_le (by omega) ?_
  rw [h.eY, Int.mul_add] at q2
  have := Int.mul_nonneg q0 h2
  have e : q * (v1 * 4294967296) = q * v1 * 4294967296 := by rw [Int.mul_assoc]
  have := h.eW
  have := h.u1
  omega
 ·have := Int.ediv_le_self v1 ht
  exact Int.lt_of_le_of_lt this ht1
 ·rw [Int.mul_comm]
  exact Int.mul_ediv_add_emod _ _
theorem DG.down (h : DG N D W Y top u2 v1 v2 p low vl) {g r : Int} (hs : g * v1 + r = top) (hq : N / D <= g) (hc : 4294967296 <= g \/ r * 4294967296 + u2 < g * v2) : N / D <= g - 1 := by
 obtain ⟨q0, q1, q2⟩ := h.q
 rcases hc with c | c
 ·omega
 ·have hY : 0 < Y := by have := h.eY; have := h.v10; have := h.v20; omega
  have h1 : W < g * Y := by
   rw [h.eW, h.eY, Int.mul_add, <- hs]
   have e : g * (v1 * 4294967296) = g * v1 * 4294967296 := by rw [Int.mul_assoc]
   omega
  generalize N / D = q at *
  have h2 : q * Y < g * Y := by omega
  have := Int.lt_of_mul_lt_mul_right h2 (by omega)
  omega
theorem DG.stop (h : DG N D W Y top u2 v1 v2 p low vl) {g r : Int} (hs : g * v1 + r = top) (g0 : 0 <= g) (g1 : g < 4294967296) (hc : 4294967296 <= r \/ g * v2 <= r * 4294967296 + u2) : g <= N / D + 1 := by
 have hp := h.p0
 have hgv : g * v2 <= r * 4294967296 + u2 := by
  rcases hc with c | c
  ·have h1 : g * v2 <= 4294967295 * 4294967295 := Int.mul_le_mul (by omega) (by have := h.v21; omega) h.v20 (by decide)
   have := h.u0
   omega
  ·exact c
 have h1 : g * Y <= W := by
  rw [h.eW, h.eY, Int.mul_add, <- hs]
  have e : g * (v1 * 4294967296) = g * v1 * 4294967296 := by rw [Int.mul_assoc]
  omega
 have h2 : g * Y * p <= W * p := Int.mul_le_mul_of_nonneg_right h1 (by omega)
 have h3 : g * vl <= 4294967295 * vl := Int.mul_le_mul_of_nonneg_right (by omega) h.w0
 have h4 : (g - 1) * D <= N := by
  have e : (g - 1) * D = g * Y * p + g * vl - D := by rw [Int.sub_mul, Int.one_mul, h.eD, Int.mul_add, Int.mul_assoc]
  have := h.eN; have := h.l0; have := h.D0.2; have := h.w1
  omega
 have := Int.le_ediv_of_mul_le h.D0.1 h4
 omega
end
/-- Where a digit is to be found. -/
structure DS (vs us : List Int) (i : Int) : Prop where
 vok : Ok32 vs
 uok : Ok32 us
 k2 : 2 <= vs.length
 top : 4294967296 ^ (vs.length - 1) <= val vs
 i0 : 0 <= i
 len : i.toNat + vs.length < us.length
 lt : val us < 4294967296 * (val vs * 4294967296 ^ i.toNat)
theorem val_drop' (xs : List Int) (i : Nat) : val (xs.drop i) = xs.getD i 0 + 4294967296 * val (xs.drop (i + 1)) := by
 by_cases h : i < xs.length
 ·rw [List.drop_eq_getElem_cons h, val, List.getD_eq_getElem?_getD, List.getElem?_eq_getElem h]; rfl
 ·rw [List.drop_eq_nil_of_le (by omega), List.drop_eq_nil_of_le (by omega), getD_ge (by omega)]; rfl
theorem val_cut (xs : List Int) (i : Nat) : val xs = val (xs.take i) + 4294967296 ^ i * val (xs.drop i) := by
 by_cases h : i <= xs.length
 ·exact val_split h
 ·rw [List.take_of_length_le (by omega), List.drop_eq_nil_of_le (by omega)]; simp [val]
theorem val_take_lt {xs : List Int} (h : Ok32 xs) (i : Nat) : 0 <= val (xs.take i) /\ val (xs.take i) < 4294967296 ^ i := by
 refine ⟨val_nonneg (h.take i), ?_⟩
 have h1 := val_lt (h.take i)
 have : (4294967296 : Int) ^ (xs.take i).length <= 4294967296 ^ i := pow_mono32 (by rw [List.length_take]; omega)
 omega
theorem drop_zero {xs : List Int} (h : Ok32 xs) {i : Nat} (hv : val xs < 4294967296 ^ i) : val (xs.drop i) = 0 := by
 have h1 := val_cut xs i
 have h2 := val_take_lt h i
 have h3 := val_nonneg (h.drop i)
 have hp := pow_pos32 i
 refine Decidable.byContradiction fun c => ?_
 have h4 : 4294967296 ^ i * 1 <= 4294967296 ^ i * val (xs.drop i) := Int.mul_le_mul_of_nonneg_left (by omega) (by omega)
 omega
theorem get_zero {xs : List Int} (h : Ok32 xs) {i : Nat} (hv : val xs < 4294967296 ^ i) {j : Nat} (hj : i <= j) : xs.getD j 0 = 0 := by
 have h1 : val xs < 4294967296 ^ j * 1 := by
  have : (4294967296 : Int) ^ i <= 4294967296 ^ j := pow_mono32 hj
  omega
 have := get_lt h h1
 have := (h.get j).1
 omega
/-- The parts of the numbers that a digit depends on. -/
theorem DS.dg {vs us : List Int} {i : Int} (h : DS vs us i) : ∃ W Y p low vl, DG (val us) (val vs * 4294967296 ^ i.toNat) W Y (us.getD (i.toNat + vs.length) 0 * 4294967296 + us.getD (i.toNat + vs.length - 1) 0) (us.getD (i.toNat + vs.length - 2) 0) (vs.getD (vs.length - 1) 0) (vs.getD (vs.length - 2) 0) p low vl /\ val us < 4294967296 ^ (i.toNat + vs.length + 1) := by
 have k2 := h.k2
 obtain ⟨k, hk⟩ : ∃ k, vs.length = k + 2 := ⟨vs.length - 2, by omega⟩
 have hvl := val_lt h.vok
 have hN : val us < 4294967296 ^ (i.toNat + vs.length + 1) := by
  have h1 : val vs * 4294967296 ^ i.toNat <= 4294967296 ^ vs.length * 4294967296 ^ i.toNat := Int.mul_le_mul_of_nonneg_right (by omega) (Int.le_of_lt (pow_pos32 _))
  have h2 : (4294967296 : Int) ^ (i.toNat + vs.length + 1) = 4294967296 * (4294967296 ^ vs.length * 4294967296 ^ i.toNat) := by
   rw [Int.pow_succ, Int.pow_add]; grind
  have := h.lt
  rw [h2]
  omega
 have g0 := h.uok.get (i.toNat + vs.length)
 have g1 := h.uok.get (i.toNat + vs.length - 1)
 have g2 := h.uok.get (i.toNat + vs.length - 2)
 have f1 := h.vok.get (vs.length - 1)
 have f2 := h.vok.get (vs.length - 2)
 have hu := val_cut us (i.toNat + k)
 have hz := drop_zero h.uok hN
 have e1 := val_drop' us (i.toNat + k)
 have e2 := val_drop' us (i.toNat + k + 1)
 have e3 := val_drop' us (i.toNat + k + 2)
 have x0 : i.toNat + vs.length = i.toNat + k + 2 := by omega
 have x1 : i.toNat + vs.length - 1 = i.toNat + k + 1 := by omega
 have x2 : i.toNat + vs.length - 2 = i.toNat + k := by omega
 have y1 : vs.length - 1 = k + 1 := by omega
 have y2 : vs.length - 2 = k := by omega
 have hv := val_cut vs k
 have d1 := val_drop' vs k
 have d2 := val_drop' vs (k + 1)
 have d3 : vs.drop (k + 1 + 1) = [] := List.drop_eq_nil_of_le (by omega)
 rw [d3] at d2
 have d4 : val ([] : List Int) = 0 := rfl
 rw [d4] at d2
 have lu := val_take_lt h.uok (i.toNat + k)
 have lv := val_take_lt h.vok k
 have ht := h.top
 have hlt := h.lt
 rw [x0] at hz g0 hN ⊢
 rw [x0] at x1 x2 g1 g2
 have x3 : i.toNat + k + 2 - 1 = i.toNat + k + 1 := by omega
 have x4 : i.toNat + k + 2 - 2 = i.toNat + k := by omega
 rw [x3] at g1 ⊢
 rw [x4] at g2 ⊢
 rw [y1] at f1 ht ⊢
 rw [y2] at f2 ⊢
 rw [hz] at e3
 have hpp : (4294967296 : Int) ^ (i.toNat + k) = 4294967296 ^ k * 4294967296 ^ i.toNat := by rw [Int.pow_add, Int.mul_comm]
 have pi := pow_pos32 i.toNat
 have pk := pow_pos32 k
 have hvv : val vs = val (vs.take k) + 4294967296 ^ k * (vs.getD k 0 + 4294967296 * vs.getD (k + 1) 0) := by rw [hv, d1, d2]; grind
 refine ⟨(us.getD (i.toNat + k + 2) 0 * 4294967296 + us.getD (i.toNat + k + 1) 0) * 4294967296 + us.getD (i.toNat + k) 0, vs.getD (k + 1) 0 * 4294967296 + vs.getD k 0, 4294967296 ^ (i.toNat + k), val (us.take (i.toNat + k)), val (vs.take k) * 4294967296 ^ i.toNat, ⟨pow_pos32 _, lu.1, lu.2, Int.mul_nonneg lv.1 (by omega), ?_, ?_, ?_, rfl, rfl, g2.1, g2.2, f2.1, f2.2, ?_, f1.2, by omega, by omega, hlt⟩, hN⟩
 ·rw [hpp]
  exact Int.mul_lt_mul_of_pos_right lv.2 pi
 ·rw [hu, e1, e2, e3]
  generalize (4294967296 : Int) ^ (i.toNat + k) = p
  grind
 ·rw [hvv, hpp]
  generalize (4294967296 : Int) ^ i.toNat = p
  generalize (4294967296 : Int) ^ k = p'
  grind
 ·refine Decidable.byContradiction fun c => ?_
  have c : vs.getD (k + 1) 0 = 0 := by omega
  rw [c] at hvv
  rw [Int.pow_succ] at ht
  have h1 : 4294967296 ^ k * (vs.getD k 0 + 4294967296 * 0) <= 4294967296 ^ k * 4294967295 := Int.mul_le_mul_of_nonneg_left (by omega) (by omega)
  omega
end Go.Proofs.YtfdealobplcboaaGreat.Sx

set_option linter.unusedVariables false
set_option linter.unusedSimpArgs false
set_option maxHeartbeats 4000000
namespace Go.Proofs.YtfdealobplcboaaGreat.Sx
theorem drop_zeros (xs : List Int) : ∀ (k n : Nat), xs.length <= n + k -> (∀ m, n <= m -> xs.getD m 0 = 0) -> val (xs.drop n) = 0
 | 0, n, hl, _ => by rw [List.drop_eq_nil_of_le (by omega)]; rfl
 | k + 1, n, hl, hz => by
  rw [val_drop', hz n (Nat.le_refl _), drop_zeros xs k (n + 1) (by omega) (fun m hm => hz m (by omega))]; rfl
theorem lt_of_zeros {xs : List Int} (h : Ok32 xs) {n : Nat} (hz : ∀ m, n <= m -> xs.getD m 0 = 0) : val xs < 4294967296 ^ n := by
 have h1 := val_cut xs n
 rw [drop_zeros xs xs.length n (by omega) hz] at h1
 have := val_take_lt h n
 omega
structure BInv (vs us : List Int) (i g j c b : Int) (o : List Int) : Prop where
 j0 : 0 <= j
 j1 : j <= vs.length
 len : o.length = us.length
 ok : Ok32 o
 c0 : 0 <= c
 c1 : c < 4294967296
 b0 : 0 <= b
 b1 : b <= 1
 keep : ∀ m, i.toNat + j.toNat <= m -> o.getD m 0 = us.getD m 0
 v : val o = val us - g * val (vs.take j.toNat) * 4294967296 ^ i.toNat + (c + b) * 4294967296 ^ (i.toNat + j.toNat)
theorem BInv.zero {vs us : List Int} {i g j : Int} (h : DS vs us i) (hj : j = 0) : BInv vs us i g j j j us := by
 subst hj
 exact ⟨by omega, by omega, rfl, h.uok, by omega, by omega, by omega, by omega, fun _ _ => rfl, by simp [val]⟩
theorem BInv.step {vs us : List Int} {i g j c b t d b' : Int} {o : List Int} (hs : DS vs us i) (g0 : 0 <= g) (g1 : g < 4294967296) (h : BInv vs us i g j c b o) (hj : j < vs.length) (ht : t = c + g * vs.getD j.toNat 0) (hd : d = (o.getD (i + j).toNat 0 - t % 4294967296 - b) % 4294967296) (hb : b' = - ((o.getD (i + j).toNat 0 - t % 4294967296 - b) / 4294967296)) :
  0 <= t /\ t < 18446744073709551616 /\ BInv vs us i g (j + 1) (t / 4294967296) b' (o.set (i + j).toNat d) := by
 have hi0 := hs.i0
 have hj0 := h.j0
 have hl := hs.len
 have f := hs.vok.get j.toNat
 have hp := prod_lt g0 g1 f.1 f.2
 have ho := h.ok.get (i + j).toNat
 have hc0 := h.c0
 have hc1 := h.c1
 have hb0 := h.b0
 have hb1 := h.b1
 have e : (j + 1).toNat = j.toNat + 1 := by omega
 have e2 : (i + j).toNat = i.toNat + j.toNat := by omega
 have hlt : (i + j).toNat < o.length := by rw [h.len]; omega
 have t0 : 0 <= t := by omega
 have t1 : t < 18446744073709551616 := by omega
 refine ⟨t0, t1, ⟨by omega, by omega, by rw [List.length_set, h.len], h.ok.set (by omega) (by omega) _, by omega, by omega, by omega, by omega, fun m hm => ?_, ?_⟩⟩
 ·rw [getD_set hlt, if_neg (by omega)]
  exact h.keep m (by omega)
 ·have hv := h.v
  rw [val_set _ _ _ hlt, e, val_take_succ, <- Nat.add_assoc, Int.pow_succ, hv]
  rw [e2] at hd hb ⊢
  have hpw : (4294967296 : Int) ^ (i.toNat + j.toNat) = 4294967296 ^ i.toNat * 4294967296 ^ j.toNat := Int.pow_add _ _ _
  have hd2 : d = o.getD (i.toNat + j.toNat) 0 - t % 4294967296 - b + 4294967296 * b' := by omega
  have ht2 : c + g * vs.getD j.toNat 0 = t % 4294967296 + 4294967296 * (t / 4294967296) := by omega
  rw [hpw, hd2]
  clear hd hb hd2 ht hv hp
  generalize t / 4294967296 = q at *
  generalize t % 4294967296 = m at *
  generalize o.getD (i.toNat + j.toNat) 0 = u at *
  generalize vs.getD j.toNat 0 = y at *
  generalize (4294967296 : Int) ^ i.toNat = p at *
  generalize (4294967296 : Int) ^ j.toNat = p' at *
  generalize val (vs.take j.toNat) = w at *
  have : m = c + g * y - 4294967296 * q := by omega
  rw [this]
  grind
theorem BInv.last {vs us : List Int} {i g j c b d b' : Int} {o : List Int} (hs : DS vs us i) (h : BInv vs us i g j c b o) (hj : j = vs.length) (hd : d = (o.getD (i + vs.length).toNat 0 - c - b) % 4294967296) (hb : b' = - ((o.getD (i + vs.length).toNat 0 - c - b) / 4294967296)) :
  0 <= b' /\ b' <= 1 /\ (o.set (i + vs.length).toNat d).length = us.length /\ Ok32 (o.set (i + vs.length).toNat d) /\ (∀ m, i.toNat + vs.length + 1 <= m -> (o.set (i + vs.length).toNat d).getD m 0 = 0) /\ val (o.set (i + vs.length).toNat d) = val us - g * (val vs * 4294967296 ^ i.toNat) + b' * 4294967296 ^ (i.toNat + vs.length + 1) := by
 have hi0 := hs.i0
 have hl := hs.len
 obtain ⟨W, Y, p, low, vl, hg, hN⟩ := hs.dg
 have ho := h.ok.get (i + vs.length).toNat
 have hc0 := h.c0
 have hc1 := h.c1
 have hb0 := h.b0
 have hb1 := h.b1
 have e2 : (i + vs.length).toNat = i.toNat + vs.length := by omega
 have e3 : j.toNat = vs.length := by omega
 have hlt : (i + vs.length).toNat < o.length := by rw [h.len]; omega
 refine ⟨by omega, by omega, by rw [List.length_set, h.len], h.ok.set (by omega) (by omega) _, fun m hm => ?_, ?_⟩
 ·rw [getD_set hlt, if_neg (by omega), h.keep m (by omega)]
  exact get_zero hs.uok hN (by omega)
 ·have hv := h.v
  rw [e3, List.take_of_length_le (by omega)] at hv
  rw [val_set _ _ _ hlt, Int.pow_succ, hv]
  rw [e2] at hd hb ⊢
  have hd2 : d = o.getD (i.toNat + vs.length) 0 - c - b + 4294967296 * b' := by omega
  rw [hd2]
  clear hd hb hd2 hv hg hN
  generalize o.getD (i.toNat + vs.length) 0 = u at *
  generalize (4294967296 : Int) ^ i.toNat = p at *
  generalize (4294967296 : Int) ^ (i.toNat + vs.length) = p' at *
  grind
structure AInv (vs us : List Int) (i j s : Int) (o : List Int) : Prop where
 j0 : 0 <= j
 j1 : j <= vs.length
 len : o.length = us.length
 ok : Ok32 o
 s0 : 0 <= s
 s1 : s <= 1
 keep : ∀ m, i.toNat + j.toNat <= m -> o.getD m 0 = us.getD m 0
 v : val o = val us + val (vs.take j.toNat) * 4294967296 ^ i.toNat - s * 4294967296 ^ (i.toNat + j.toNat)
theorem AInv.zero {vs us : List Int} {i j : Int} (h : Ok32 us) (hj : j = 0) : AInv vs us i j j us := by
 subst hj
 exact ⟨by omega, by omega, rfl, h, by omega, by omega, fun _ _ => rfl, by simp [val]⟩
theorem AInv.step {vs us : List Int} {i j s d s' : Int} {o : List Int} (hv' : Ok32 vs) (hi0 : 0 <= i) (hl : i.toNat + vs.length < us.length) (h : AInv vs us i j s o) (hj : j < vs.length) (hd : d = (o.getD (i + j).toNat 0 + vs.getD j.toNat 0 + s) % 4294967296) (hs' : s' = (o.getD (i + j).toNat 0 + vs.getD j.toNat 0 + s) / 4294967296) :
  AInv vs us i (j + 1) s' (o.set (i + j).toNat d) := by
 have hj0 := h.j0
 have f := hv'.get j.toNat
 have ho := h.ok.get (i + j).toNat
 have hs0 := h.s0
 have hs1 := h.s1
 have e : (j + 1).toNat = j.toNat + 1 := by omega
 have e2 : (i + j).toNat = i.toNat + j.toNat := by omega
 have hlt : (i + j).toNat < o.length := by rw [h.len]; omega
 refine ⟨by omega, by omega, by rw [List.length_set, h.len], h.ok.set (by omega) (by omega) _, by omega, by omega, fun m hm => ?_, ?_⟩
 ·rw [getD_set hlt, if_neg (by omega)]
  exact h.keep m (by omega)
 ·have hv := h.v
  rw [val_set _ _ _ hlt, e, val_take_succ, <- Nat.add_assoc, Int.pow_succ, hv]
  rw [e2] at hd hs' ⊢
  have hpw : (4294967296 : Int) ^ (i.toNat + j.toNat) = 4294967296 ^ i.toNat * 4294967296 ^ j.toNat := Int.pow_add _ _ _
  have hd2 : d = o.getD (i.toNat + j.toNat) 0 + vs.getD j.toNat 0 + s - 4294967296 * s' := by omega
  rw [hpw, hd2]
  clear hd hs' hd2 hv
  generalize o.getD (i.toNat + j.toNat) 0 = u at *
  generalize vs.getD j.toNat 0 = y at *
  generalize (4294967296 : Int) ^ i.toNat = p at *
  generalize (4294967296 : Int) ^ j.toNat = p' at *
  generalize val (vs.take j.toNat) = w at *
  grind
/-- What digit brings about: the quotient, and the rest. -/
structure DEnd (vs us : List Int) (i g : Int) (o : List Int) : Prop where
 len : o.length = us.length
 ok : Ok32 o
 eg : g = val us / (val vs * 4294967296 ^ i.toNat)
 v : val o = val us - g * (val vs * 4294967296 ^ i.toNat)
theorem AInv.last {vs us0 us : List Int} {i g j s d : Int} {o : List Int} (hs : DS vs us0 i) (hlen : us.length = us0.length) (g1 : g <= val us0 / (val vs * 4294967296 ^ i.toNat) + 1)
  (hz : ∀ m, i.toNat + vs.length + 1 <= m -> us.getD m 0 = 0) (hok : Ok32 us) (hv0 : val us = val us0 - g * (val vs * 4294967296 ^ i.toNat) + 4294967296 ^ (i.toNat + vs.length + 1))
  (h : AInv vs us i j s o) (hj : j = vs.length) (hd : d = (o.getD (i + vs.length).toNat 0 + s) % 4294967296) : DEnd vs us0 i (g - 1) (o.set (i + vs.length).toNat d) := by
 have hi0 := hs.i0
 have hl := hs.len
 have ho := h.ok.get (i + vs.length).toNat
 have hs0 := h.s0
 have hs1 := h.s1
 obtain ⟨W, Y, p, low, vl, hg, hN⟩ := hs.dg
 have hD := hg.D0.1
 have e2 : (i + vs.length).toNat = i.toNat + vs.length := by omega
 have e3 : j.toNat = vs.length := by omega
 have hlt : (i + vs.length).toNat < o.length := by rw [h.len]; omega
 have hok' := h.ok.set (x := d) (by omega) (by omega) (i + vs.length).toNat
 have hz' : ∀ m, i.toNat + vs.length + 1 <= m -> (o.set (i + vs.length).toNat d).getD m 0 = 0 := fun m hm => by
  rw [getD_set hlt, if_neg (by omega), h.keep m (by omega)]
  exact hz m hm
 have hlt2 := lt_of_zeros hok' hz'
 have hge := val_nonneg hok'
 have hus := lt_of_zeros hok hz
 have hv : val (o.set (i + vs.length).toNat d) = val us0 - (g - 1) * (val vs * 4294967296 ^ i.toNat) + (1 - (o.getD (i + vs.length).toNat 0 + s) / 4294967296) * 4294967296 ^ (i.toNat + vs.length + 1) := by
  have hv := h.v
  rw [e3, List.take_of_length_le (by omega)] at hv
  rw [val_set _ _ _ hlt, hv, hv0, e2]
  rw [e2] at hd
  have hd2 : d = o.getD (i.toNat + vs.length) 0 + s - 4294967296 * ((o.getD (i.toNat + vs.length) 0 + s) / 4294967296) := by omega
  rw [hd2, Int.pow_succ]
  generalize (o.getD (i.toNat + vs.length) 0 + s) / 4294967296 = w
  generalize o.getD (i.toNat + vs.length) 0 = u
  generalize (4294967296 : Int) ^ i.toNat = p
  generalize (4294967296 : Int) ^ (i.toNat + vs.length) = p'
  grind
 obtain ⟨w, hw⟩ : ∃ w, w = (o.getD (i + vs.length).toNat 0 + s) / 4294967296 := ⟨_, rfl⟩
 have hw1 : w <= 1 := by omega
 have hw0 : 0 <= w := by omega
 rw [<- hw] at hv
 have hgq : g = val us0 / (val vs * 4294967296 ^ i.toNat) + 1 := by
  refine Int.le_antisymm g1 ?_
  have h1 : val us0 < g * (val vs * 4294967296 ^ i.toNat) := by omega
  exact Int.ediv_lt_of_lt_mul hD h1
 have hq : 0 <= val us0 - (g - 1) * (val vs * 4294967296 ^ i.toNat) := by
  have h1 := Int.ediv_mul_le (val us0) (show val vs * 4294967296 ^ i.toNat ≠ 0 by omega)
  have h2 : g - 1 = val us0 / (val vs * 4294967296 ^ i.toNat) := by omega
  rw [h2]; omega
 have hw' : w = 1 := by
  refine Decidable.byContradiction fun c => ?_
  have c : w = 0 := by omega
  rw [c] at hv
  omega
 rw [hw'] at hv
 exact ⟨by rw [List.length_set, h.len, hlen], hok', by omega, by rw [hv]; omega⟩
theorem BInv.done {vs us : List Int} {i g : Int} {o : List Int} (hs : DS vs us i) (hg : val us / (val vs * 4294967296 ^ i.toNat) <= g) (h1 : o.length = us.length) (h2 : Ok32 o) (h3 : val o = val us - g * (val vs * 4294967296 ^ i.toNat) + 0 * 4294967296 ^ (i.toNat + vs.length + 1)) : DEnd vs us i g o := by
 obtain ⟨W, Y, p, low, vl, hdg, hN⟩ := hs.dg
 have hD := hdg.D0.1
 have h4 := val_nonneg h2
 have h5 : val o = val us - g * (val vs * 4294967296 ^ i.toNat) := by omega
 refine ⟨h1, h2, Int.le_antisymm (Int.le_ediv_of_mul_le hD (by omega)) hg, h5⟩
/-- The quotient so far. -/
structure QInv (a V : Int) (vs : List Int) (m L : Nat) (i : Int) (us qs : List Int) : Prop where
 i0 : -1 <= i
 i1 : i < m
 ulen : us.length = L
 uok : Ok32 us
 ult : val us < V * 4294967296 ^ (i + 1).toNat
 qlen : qs.length = m
 qok : Ok32 qs
 qz : ∀ j : Nat, (j : Int) <= i -> qs.getD j 0 = 0
 v : a = val us + val qs * V
theorem QInv.ds {a V : Int} {vs : List Int} {m L : Nat} {i : Int} {us qs : List Int} (h : QInv a V vs m L i us qs) (hi : 0 <= i) (hv : Ok32 vs) (hk : 2 <= vs.length) (ht : 4294967296 ^ (vs.length - 1) <= val vs) (hV : V = val vs) (hL : m + vs.length = L) : DS vs us i := by
 have h1 := h.i1
 have h2 := h.ulen
 have h3 := h.ult
 have e : (i + 1).toNat = i.toNat + 1 := by omega
 rw [e, Int.pow_succ, hV] at h3
 exact ⟨hv, h.uok, hk, ht, hi, by omega, by
  have : val vs * (4294967296 ^ i.toNat * 4294967296) = 4294967296 * (val vs * 4294967296 ^ i.toNat) := by
   generalize (4294967296 : Int) ^ i.toNat = p
   grind
  omega⟩
theorem QInv.step {a V : Int} {vs : List Int} {m L : Nat} {i g : Int} {us qs o : List Int} (h : QInv a V vs m L i us qs) (hi : 0 <= i) (hs : DS vs us i) (hV : V = val vs) (hd : DEnd vs us i g o) : QInv a V vs m L (i - 1) o (qs.set i.toNat g) := by
 obtain ⟨W, Y, p, low, vl, hdg, hN⟩ := hs.dg
 have hD := hdg.D0.1
 have hq := hdg.q
 have h1 := h.i1
 have hg := hd.eg
 have e : (i - 1 + 1).toNat = i.toNat := by omega
 have hlt : i.toNat < qs.length := by rw [h.qlen]; omega
 refine ⟨by omega, by omega, by rw [hd.len, h.ulen], hd.ok, ?_, by rw [List.length_set, h.qlen], h.qok.set (by omega) (by omega) _, fun j hj => ?_, ?_⟩
 ·rw [e, hd.v, hg, hV]
  have := Int.lt_ediv_add_one_mul_self (val us) hD
  rw [Int.add_mul, Int.one_mul] at this
  omega
 ·rw [getD_set hlt, if_neg (by omega)]
  exact h.qz j (by omega)
 ·rw [val_set _ _ _ hlt, h.qz _ (by omega), h.v, hd.v, hV]
  generalize (4294967296 : Int) ^ i.toNat = p
  grind
end Go.Proofs.YtfdealobplcboaaGreat.Sx

set_option linter.unusedVariables false
set_option linter.unusedSimpArgs false
namespace Go.Proofs.YtfdealobplcboaaGreat.Sx
theorem LoopTo.invQ {ι κ : Type} {P : Program} {m : Nat} {c : Unit -> Code} {B : Unit -> (X -> St -> Prop) -> St -> Prop} {K : X -> St -> Prop} {s : St} (I : ι -> St) (J : κ -> St) (p : ι -> Prop) (q : κ -> Prop) (μ : ι -> Nat) (i0 : ι) (r0 : List Nat) (n : Nat) (hp : p i0) (h0 : St.le m r0 s (I i0))
  (hk : ∀ k, q k -> K (.e n) (J k))
  (hb : ∀ i, p i -> B () (fun x s' => match x with
   | .n => ∃ j r, p j /\ μ j < μ i /\ St.le m r s' (I j)
   | .e n' => n' = n /\ ∃ k r, q k /\ St.le m r s' (J k)
   | .r => K .r s'
   | .g l => K (.g l) s') (I i)) : LoopTo P m c B K s := by
 refine ⟨fun ro hB w0 β0 β M a w ht hw hx => ?_⟩
 refine wpIn_mono ((LoopTo.inv (K := fun x s' => match x with
   | .n => K .n s'
   | .e n' => n' = n /\ ∃ k r, q k /\ St.le m r s' (J k)
   | .r => K .r s'
   | .g l => K (.g l) s') I p μ i0 r0 hp h0 (fun i hi => by
    have h := hb i hi
    exact Eq.mp (congrArg (fun F => B () F (I i)) (funext fun x => funext fun s' => by cases x <;> rfl)) h)).out ro hB w0 β0 β M a w ht hw hx) (fun e a w hq => ?_)
 cases e with
 | normal => exact hq
 | ret => exact hq
 | exit j =>
  obtain ⟨s', β', M', h1, h2, h3, rfl, k, r, h4, h5⟩ := hq
  obtain ⟨q1, q2, q3⟩ := St.le_rel h5 h1 h2 h3
  exact ⟨J k, _, M', q1, q2, q3, hk k h4⟩
 | _ => exact hq
/-- As LoopTo.by; the round may also end with the exit n, in a state of the second sort. -/
theorem LoopTo.byQ {ι κ : Type} {P : Program} {m : Nat} {c : Unit -> Code} {B : Unit -> (X -> St -> Prop) -> St -> Prop} {K : X -> St -> Prop} {s : St} (chg : ι -> List (Nat × AV)) (hc : ι -> List (Nat × Blk)) (chq : κ -> List (Nat × AV)) (hq : κ -> List (Nat × Blk)) (p : ι -> Prop) (q : κ -> Prop) (μ : ι -> Nat) (i0 : ι) (r0 : List Nat) (n : Nat) (hp : p i0) (h0 : St.le m r0 s (s.upd (c ()) (chg i0) (hc i0)))
  (hb : ∀ i, p i -> B () (fun x s' => match x with
   | .n => ∃ j r, p j /\ μ j < μ i /\ St.le m r s' (s.upd (c ()) (chg j) (hc j))
   | .e n' => n' = n /\ ∃ k r, q k /\ St.le m r s' (s.upd (c ()) (chq k) (hq k))
   | .r => K .r s'
   | .g l => K (.g l) s') (s.upd (c ()) (chg i) (hc i)))
  (hk : ∀ k, q k -> K (.e n) (s.upd (c ()) (chq k) (hq k))) : LoopTo P m c B K s :=
 LoopTo.invQ (fun i => s.upd (c ()) (chg i) (hc i)) (fun k => s.upd (c ()) (chq k) (hq k)) p q μ i0 r0 n hp h0 hk hb
theorem DrawTo.run {P : Program} {m : Nat} {c : Unit -> Code} {B : Unit -> (X -> St -> Prop) -> Prop} {K : X -> St -> Prop} {s : St} (h : B () K) : DrawTo P m c B K s :=
 ⟨fun ro hB w0 β0 β M a w ht hw hx => hB w0 β0 K β M a w h ht hw hx⟩
/-- All ends of a drawn region are told as one sort of state. -/
theorem DrawTo.merge {κ : Type} {P : Program} {m : Nat} {c : Unit -> Code} {B : Unit -> (X -> St -> Prop) -> Prop} {K : X -> St -> Prop} {s : St} (J : κ -> St) (q : κ -> Prop)
  (hb : B () (fun x s' => match x with
   | .n => ∃ k r, q k /\ St.le m r s' (J k)
   | x => K x s'))
  (hk : ∀ k, q k -> K .n (J k)) : DrawTo P m c B K s := by
 refine ⟨fun ro hB w0 β0 β M a w ht hw hx => ?_⟩
 refine wpIn_mono (hB w0 β0 _ β M a w hb ht hw hx) (fun e a w hq => ?_)
 cases e with
 | normal =>
  obtain ⟨s', β', M', h1, h2, h3, k, r, h4, h5⟩ := hq
  obtain ⟨q1, q2, q3⟩ := St.le_rel h5 h1 h2 h3
  exact ⟨J k, _, M', q1, q2, q3, hk k h4⟩
 | ret => exact hq
 | exit j => exact hq
 | _ => exact hq
end Go.Proofs.YtfdealobplcboaaGreat.Sx

set_option linter.unusedVariables false
set_option linter.unusedSimpArgs false
set_option maxRecDepth 100000
set_option maxHeartbeats 4000000
namespace Go.Proofs.YtfdealobplcboaaGreat.Sx
theorem divide_lt (a d : Nat) (h : a < d) (ha : (lb a).length <= 137438953472) (hd : (lb d).length <= 137438953472) : Con Tryz.prog 213 [.ro cU (lb a), .ro cU (lb d)] (.tup [.ro cU [], .arg 0 (lb a).length]) := by
 have hc := compare_con a d ha hd
 have hcc : cmpI a d = -1 := by rw [cmpI, if_pos (by omega)]
 rw [hcc] at hc
 obtain ⟨xs, hxs⟩ : ∃ x, x = lb a := ⟨_, rfl⟩
 obtain ⟨ys, hys⟩ : ∃ x, x = lb d := ⟨_, rfl⟩
 rw [<- hxs, <- hys] at hc
 rw [<- hxs, <- hys]
 obtain ⟨n, hn⟩ : ∃ x : Int, x = xs.length := ⟨_, rfl⟩
 rw [<- hn]
 refine Con.of ttOk mixed Tryz.func213 {} .nil 0 (by kernel_rfl) (fun P' E hP hE => ?_)
 clear hxs hys ha hd
 have hlx : Env.std.tk Int xs (Env.std.len Int xs) = xs := by rw [s_tk, s_len, List.take_of_length_le (by omega)]
 have hly : Env.std.tk Int ys (Env.std.len Int ys) = ys := by rw [s_tk, s_len, List.take_of_length_le (by omega)]
 have hnn : Env.std.len Int xs = n := hn.symm
 cbv
 refine CallTo.con hP hE hc (by subst hE; exact ⟨Sm.of hlx, Sm.of hly, trivial⟩) ?_
 cbv
 refine ⟨fun h1 => ?_, fun h1 => ?_⟩
 ·cbv
  subst hE
  exact ⟨cInt_ok .u32, hnn, trivial⟩
 ·exfalso
  subst hE
  have h : Env.std.ic .lss (-1) 0 = false := h1
  simp at h
theorem len_lb_one {d : Nat} (h : (lb d).length = 1) : 0 < d /\ d < 4294967296 /\ (lb d).getD 0 0 = d := by
 have h1 := val_lb d
 have h2 := lb_lt d
 have h3 : d ≠ 0 := fun c => by rw [c, lb_zero] at h; simp at h
 rw [h] at h2
 match hl : lb d, h with
 | [x], _ =>
  rw [hl] at h1
  simp only [val] at h1
  exact ⟨by omega, by omega, by show x = _; omega⟩
theorem divide_one (a d : Nat) (h : d <= a) (ha : (lb a).length <= 137438953472) (hd : (lb d).length = 1) : Con Tryz.prog 213 [.ro cU (lb a), .ro cU (lb d)] (.tup [.ro cU (lb (a / d)), .ro cU (lb (a % d))]) := by
 obtain ⟨d0, d1, d2⟩ := len_lb_one hd
 have hc := compare_con a d ha (by omega)
 have hs := short_con a d ha d0 d1
 obtain ⟨c, hcc⟩ : ∃ c, c = cmpI a d := ⟨_, rfl⟩
 have hc0 : 0 <= c := by rw [hcc, cmpI, if_neg (by omega)]; split <;> omega
 rw [<- hcc] at hc
 obtain ⟨m, hm⟩ : ∃ m, m = a % d := ⟨_, rfl⟩
 have hmd : m < d := by rw [hm]; exact Nat.mod_lt _ d0
 have hrok : Ok32 [(m : Int)] := .cons (by omega) (by omega) .nil
 have htk := take_tlen hrok
 have hvm : (val [(m : Int)]).toNat = m := by show ((m : Int) + 4294967296 * 0).toNat = m; omega
 rw [hvm] at htk
 obtain ⟨r, hr⟩ : ∃ r : Int, r = m := ⟨_, rfl⟩
 rw [<- hm] at hs
 rw [<- hm, <- htk]
 rw [<- hr] at hs htk ⊢
 have ht := trim_con [r] (by simp)
 obtain ⟨n, hn⟩ : ∃ n, n = tlen [r] := ⟨_, rfl⟩
 rw [<- hn] at ht ⊢
 obtain ⟨w, hw⟩ : ∃ w, w = List.take n [r] := ⟨_, rfl⟩
 rw [<- hw]
 obtain ⟨xs, hxs⟩ : ∃ x, x = lb a := ⟨_, rfl⟩
 obtain ⟨ys, hys⟩ : ∃ x, x = lb d := ⟨_, rfl⟩
 obtain ⟨zs, hzs⟩ : ∃ x, x = lb (a / d) := ⟨_, rfl⟩
 rw [<- hxs, <- hys] at hc
 rw [<- hxs, <- hzs] at hs
 rw [<- hxs, <- hys, <- hzs]
 rw [<- hys] at hd d2
 obtain ⟨e, he⟩ : ∃ e : Int, e = d := ⟨_, rfl⟩
 rw [<- he] at hs d2
 refine Con.of ttOk mixed Tryz.func213 {} .nil 0 (by kernel_rfl) (fun P' E hP hE => ?_)
 clear hxs hys hzs ha hcc htk hrok hvm hm hn
 have hlx : Env.std.tk Int xs (Env.std.len Int xs) = xs := by rw [s_tk, s_len, List.take_of_length_le (by omega)]
 have hly : Env.std.tk Int ys (Env.std.len Int ys) = ys := by rw [s_tk, s_len, List.take_of_length_le (by omega)]
 have hlz : Env.std.tk Int zs (Env.std.len Int zs) = zs := by rw [s_tk, s_len, List.take_of_length_le (by omega)]
 have hgy : Env.std.get Int ys 0 0 = e := d2
 have hin : Env.std.inb 0 (Env.std.len Int ys) := by rw [s_inb, s_len]; omega
 have hone : Env.std.ic .eql (Env.std.len Int ys) 1 = true := by rw [s_eql, s_len, hd]; rfl
 cbv
 refine CallTo.con hP hE hc (by subst hE; exact ⟨Sm.of hlx, Sm.of hly, trivial⟩) ?_
 cbv
 refine ⟨fun h1 => ?_, fun h1 => ?_⟩
 ·exfalso
  subst hE
  have h : Env.std.ic .lss c 0 = true := h1
  simp at h
  omega
 ·cbv
  refine ⟨fun h2 => ?_, fun h2 => ?_⟩
  ·cbv
   refine ⟨by subst hE; exact hin, ?_⟩
   cbv
   refine CallTo.con hP hE hs (by subst hE; exact ⟨Sm.of hlx, congrArg (Value.int .u32) hgy, trivial⟩) ?_
   cbv
   refine CallTo.lit (i := 0) (c := cU) (ys := [r]) rfl rfl (cInt_ok _) rfl rfl (by decide) ?_
   refine CallTo.con hP hE ht ?_ ?_
   ·subst hE
    exact ⟨Sm.of rfl, trivial⟩
   ·have hw' : Env.std.tk Int [r] n = w := by rw [s_tk, Int.toNat_natCast, hw]
    cbv
    subst hE
    exact ⟨Sm.of hlz, Sm.of hw', trivial⟩
  ·exfalso
   subst hE
   have h : Env.std.ic .eql (Env.std.len Int ys) 1 = false := h2
   rw [hone] at h
   cases h
end Go.Proofs.YtfdealobplcboaaGreat.Sx

set_option linter.unusedVariables false
set_option linter.unusedSimpArgs false
set_option maxHeartbeats 4000000
namespace Go.Proofs.YtfdealobplcboaaGreat.Sx
def dTop (vs us : List Int) (i : Int) : Int := us.getD (i.toNat + vs.length) 0 * 4294967296 + us.getD (i.toNat + vs.length - 1) 0
def dU2 (vs us : List Int) (i : Int) : Int := us.getD (i.toNat + vs.length - 2) 0
def dV1 (vs : List Int) : Int := vs.getD (vs.length - 1) 0
def dV2 (vs : List Int) : Int := vs.getD (vs.length - 2) 0
def dQ (vs us : List Int) (i : Int) : Int := val us / (val vs * 4294967296 ^ i.toNat)
structure GInv (vs us : List Int) (i g r : Int) : Prop where
 q : dQ vs us i <= g
 g0 : 0 <= g
 g1 : g < 18446744073709551616
 r0 : 0 <= r
 r1 : r < 18446744073709551616
 s : g * dV1 vs + r = dTop vs us i
structure GEnd (vs us : List Int) (i g : Int) : Prop where
 q : dQ vs us i <= g
 q1 : g <= dQ vs us i + 1
 g0 : 0 <= g
 g1 : g < 4294967296
theorem DS.v1 {vs us : List Int} {i : Int} (S : DS vs us i) : 1 <= dV1 vs /\ dV1 vs < 4294967296 := by
 obtain ⟨W, Y, p, low, vl, G, hN⟩ := S.dg
 exact ⟨G.v10, G.v11⟩
theorem DS.v2 {vs us : List Int} {i : Int} (S : DS vs us i) : 0 <= dV2 vs /\ dV2 vs < 4294967296 := S.vok.get _
theorem DS.u2 {vs us : List Int} {i : Int} (S : DS vs us i) : 0 <= dU2 vs us i /\ dU2 vs us i < 4294967296 := S.uok.get _
theorem DS.t {vs us : List Int} {i : Int} (S : DS vs us i) : 0 <= dTop vs us i /\ dTop vs us i < 18446744073709551616 := by
 obtain ⟨W, Y, p, low, vl, G, hN⟩ := S.dg
 exact ⟨G.t0, G.t1⟩
theorem DS.first {vs us : List Int} {i : Int} (S : DS vs us i) : GInv vs us i (dTop vs us i / dV1 vs) (dTop vs us i % dV1 vs) := by
 have ht := S.t
 have hv := S.v1
 obtain ⟨W, Y, p, low, vl, G, hN⟩ := S.dg
 obtain ⟨h1, h2, h3, h4, h5⟩ := G.first
 have h6 := Int.emod_lt_of_pos (dTop vs us i) (show 0 < dV1 vs by omega)
 exact ⟨h1, h2, h3, h5, by omega, h4⟩
theorem GInv.down {vs us : List Int} {i g r : Int} (S : DS vs us i) (h : GInv vs us i g r) (hc : 4294967296 <= g \/ r * 4294967296 + dU2 vs us i < g * dV2 vs) : GInv vs us i (g - 1) (r + dV1 vs) := by
 have ht := S.t
 have hv := S.v1
 have q0 := h.r0
 obtain ⟨W, Y, p, low, vl, G, hN⟩ := S.dg
 have h1 := G.down h.s h.q hc
 have h0 : 0 <= dQ vs us i := G.q.1
 have g0 : 0 <= g - 1 := Int.le_trans h0 h1
 have hs : (g - 1) * dV1 vs + (r + dV1 vs) = dTop vs us i := by
  rw [Int.sub_mul, Int.one_mul, <- h.s]; omega
 have hm : 0 <= (g - 1) * dV1 vs := Int.mul_nonneg g0 (by omega)
 exact ⟨h1, g0, by have := h.g1; omega, by omega, by omega, hs⟩
theorem GInv.stop {vs us : List Int} {i g r : Int} (S : DS vs us i) (h : GInv vs us i g r) (hg : g < 4294967296) (hc : 4294967296 <= r \/ g * dV2 vs <= r * 4294967296 + dU2 vs us i) : GEnd vs us i g := by
 obtain ⟨W, Y, p, low, vl, G, hN⟩ := S.dg
 exact ⟨h.q, G.stop h.s h.g0 hg hc, h.g0, hg⟩
end Go.Proofs.YtfdealobplcboaaGreat.Sx

set_option linter.unusedVariables false
set_option linter.unusedSimpArgs false
set_option maxRecDepth 100000
set_option maxHeartbeats 8000000
namespace Go.Proofs.YtfdealobplcboaaGreat.Sx
/-- The numbers that are divided, shifted so that the divisor has a great first limb. -/
structure Dv (a d : Nat) (n : Nat) (us vs : List Int) : Prop where
 n1 : n <= 32
 uok : Ok32 us
 ul : us.length = (lb a).length + 1
 uv : val us = (a : Int) * ((2 ^ n : Nat) : Int)
 vok : Ok32 vs
 vl : vs.length = (lb d).length + 1
 vv : val vs = (d : Int) * ((2 ^ n : Nat) : Int)
 vt : vs.take (tlen vs) = lb (d * 2 ^ n)
 tl : tlen vs = (lb d).length
theorem val_fixl : ∀ (k n : Nat), n < 4294967296 ^ k -> val (fixl k n) = n
 | 0, n, h => by
  have : n = 0 := by simpa using h
  subst this; rfl
 | k + 1, n, h => by
  simp only [fixl, val]
  rw [val_fixl k _ (by rw [Nat.pow_succ] at h; exact Nat.div_lt_of_lt_mul (by rw [Nat.mul_comm]; exact h))]
  omega
theorem lb_len_lt {n k : Nat} (h : n < 4294967296 ^ k) : (lb n).length <= k := by
 refine Decidable.byContradiction fun c => ?_
 have h0 : n ≠ 0 := fun e => by rw [e, lb_zero] at c; simp at c
 have h1 := lb_ge n h0
 have h2 : (4294967296 : Int) ^ k <= 4294967296 ^ ((lb n).length - 1) := pow_mono32 (by omega)
 have h3 : ((4294967296 ^ k : Nat) : Int) = 4294967296 ^ k := by simp
 omega
theorem lb_len_ge {n k : Nat} (h : 4294967296 ^ k <= n) : k < (lb n).length := by
 refine Decidable.byContradiction fun c => ?_
 have h1 := lb_lt n
 have h2 : (4294967296 : Int) ^ (lb n).length <= 4294967296 ^ k := pow_mono32 (by omega)
 have h3 : ((4294967296 ^ k : Nat) : Int) = 4294967296 ^ k := by simp
 omega
/-- The first limb of a number. -/
theorem lb_top {d k : Nat} (h : (lb d).length = k + 1) : ∃ t : Nat, (lb d).getD k 0 = t /\ t ≠ 0 /\ t < 4294967296 /\ 4294967296 ^ k * t <= d /\ d < 4294967296 ^ k * (t + 1) := by
 have h0 : d ≠ 0 := fun e => by rw [e, lb_zero] at h; simp at h
 have h1 := val_cut (lb d) k
 have h2 := val_drop' (lb d) k
 have h3 : (lb d).drop (k + 1) = [] := List.drop_eq_nil_of_le (by omega)
 rw [h3] at h2
 have h4 := val_take_lt (lb_ok d) k
 have h5 := (lb_ok d).get k
 rw [val_lb, h2] at h1
 have h6 : val ([] : List Int) = 0 := rfl
 rw [h6] at h1
 have h7 := lb_ge d h0
 rw [h] at h7
 have h8 : k + 1 - 1 = k := by omega
 rw [h8] at h7
 obtain ⟨t, ht⟩ : ∃ t : Nat, (lb d).getD k 0 = t := ⟨((lb d).getD k 0).toNat, by omega⟩
 have hc : ((4294967296 ^ k : Nat) : Int) = 4294967296 ^ k := by simp
 rw [ht] at h1 h5
 have h9 : (d : Int) = val (List.take k (lb d)) + ((4294967296 ^ k * t : Nat) : Int) := by
  rw [h1, Int.natCast_mul, hc]; simp
 rw [<- hc] at h4 h7
 have h10 : 4294967296 ^ k * (t + 1) = 4294967296 ^ k * t + 4294967296 ^ k := by rw [Nat.mul_add, Nat.mul_one]
 refine ⟨t, ht, fun e => ?_, by omega, by omega, by omega⟩
 rw [e, Nat.mul_zero] at h9
 omega
theorem isLen_of (t : Nat) (h0 : t ≠ 0) (h : t < 4294967296) : ∃ n, IsLen n t /\ n <= 32 /\ 1 <= n := by
 refine ⟨Nat.log2 t + 1, ⟨Nat.lt_log2_self, Or.inr ?_⟩, ?_, by omega⟩
 ·exact Nat.log2_self_le h0
 ·have := (Nat.log2_lt h0).2 (show t < 2 ^ 32 from h)
  omega
theorem Dv.ex {a d : Nat} (hk : 2 <= (lb d).length) : ∃ (t : Nat) (n : Nat) (us vs : List Int), (lb d).getD ((lb d).length - 1) 0 = (t : Int) /\ t < 4294967296 /\ n <= 32 /\ IsLen (32 - n) t /\ Dv a d n us vs := by
 obtain ⟨k, hkk⟩ : ∃ k, (lb d).length = k + 1 := ⟨(lb d).length - 1, by omega⟩
 obtain ⟨t, h1, h2, h3, h4, h5⟩ := lb_top hkk
 obtain ⟨m, g1, g2, g3⟩ := isLen_of t h2 h3
 have e1 : (lb d).length - 1 = k := by omega
 have e2 : 32 - (32 - m) = m := by omega
 have hn : 2 ^ (32 - m) <= 4294967296 := by
  have : 2 ^ (32 - m) <= 2 ^ 32 := Nat.pow_le_pow_right (by decide) (by omega)
  exact this
 have hp : 0 < 2 ^ (32 - m) := Nat.pow_pos (by decide)
 have hB : 0 < 4294967296 ^ k := Nat.pow_pos (by decide)
 have up : ∀ x : Nat, x * 2 ^ (32 - m) < 4294967296 ^ ((lb x).length + 1) := by
  intro x
  have q1 := lb_lt x
  have q2 : ((4294967296 ^ (lb x).length : Nat) : Int) = 4294967296 ^ (lb x).length := by simp
  have q3 : x < 4294967296 ^ (lb x).length := by omega
  rw [Nat.pow_succ]
  exact Nat.lt_of_lt_of_le (Nat.mul_lt_mul_of_pos_right q3 hp) (Nat.mul_le_mul_left _ hn)
 have hd : d * 2 ^ (32 - m) < 4294967296 ^ (k + 1) := by
  have q1 : d * 2 ^ (32 - m) < 4294967296 ^ k * (t + 1) * 2 ^ (32 - m) := Nat.mul_lt_mul_of_pos_right h5 hp
  have q2 : (t + 1) * 2 ^ (32 - m) <= 2 ^ m * 2 ^ (32 - m) := Nat.mul_le_mul_right _ (by have := g1.1; omega)
  have q3 : 2 ^ m * 2 ^ (32 - m) = 4294967296 := by
   rw [<- Nat.pow_add]
   have : m + (32 - m) = 32 := by omega
   rw [this]
  rw [Nat.pow_succ]
  rw [q3] at q2
  refine Nat.lt_of_lt_of_le q1 ?_
  rw [Nat.mul_assoc]
  exact Nat.mul_le_mul_left _ q2
 have hv : val (fixl ((lb d).length + 1) (d * 2 ^ (32 - m))) = ((d * 2 ^ (32 - m) : Nat) : Int) := val_fixl _ _ (up d)
 have hvo := fixl_ok ((lb d).length + 1) (d * 2 ^ (32 - m))
 have ht := take_tlen hvo
 rw [hv, Int.toNat_natCast] at ht
 have hlen : (lb (d * 2 ^ (32 - m))).length = k + 1 := by
  have q1 := lb_len_lt hd
  have q2 : 4294967296 ^ k <= d * 2 ^ (32 - m) := by
   have q3 : 4294967296 ^ k <= 4294967296 ^ k * t := Nat.le_mul_of_pos_right _ (by omega)
   have q4 : d <= d * 2 ^ (32 - m) := Nat.le_mul_of_pos_right _ hp
   omega
  have := lb_len_ge q2
  omega
 have htl : tlen (fixl ((lb d).length + 1) (d * 2 ^ (32 - m))) = (lb d).length := by
  have q1 := tlen_le (fixl ((lb d).length + 1) (d * 2 ^ (32 - m)))
  have q2 := congrArg List.length ht
  rw [List.length_take, hlen] at q2
  omega
 refine ⟨t, 32 - m, fixl ((lb a).length + 1) (a * 2 ^ (32 - m)), fixl ((lb d).length + 1) (d * 2 ^ (32 - m)), by rw [e1]; exact h1, h3, by omega, by rw [e2]; exact g1, ⟨by omega, fixl_ok _ _, fixl_length _ _, ?_, hvo, fixl_length _ _, ?_, ht, htl⟩⟩
 ·rw [val_fixl _ _ (up a)]; exact Int.natCast_mul _ _
 ·rw [hv]; exact Int.natCast_mul _ _
theorem Dv.ws {a d n : Nat} {us vs : List Int} (h : Dv a d n us vs) : (lb (d * 2 ^ n)).length = (lb d).length /\ val (lb (d * 2 ^ n)) = (d : Int) * ((2 ^ n : Nat) : Int) := by
 refine ⟨?_, by rw [val_lb]; exact Int.natCast_mul _ _⟩
 rw [<- h.vt, List.length_take, h.tl, h.vl]; omega
theorem Dv.start {a d n : Nat} {us vs : List Int} (h : Dv a d n us vs) (hk : 2 <= (lb d).length) (hle : (lb d).length <= (lb a).length) {m : Nat} (hm : m = (lb a).length + 1 - (lb d).length) {i : Int} (hi : i = (m : Int) - 1) {qs : List Int} (hq : qs = List.replicate m 0) :
  QInv ((a : Int) * ((2 ^ n : Nat) : Int)) (val (lb (d * 2 ^ n))) (lb (d * 2 ^ n)) m ((lb a).length + 1) i us qs := by
 subst hi; subst hq
 have e : ((m : Int) - 1 + 1).toNat = m := by omega
 have hp : 0 < 2 ^ n := Nat.pow_pos (by decide)
 refine ⟨by omega, by omega, h.ul, h.uok, ?_, by simp, .rep _, fun j _ => rep_getD _ _, by rw [val_rep, h.uv]; omega⟩
 rw [e, h.uv, (h.ws).2]
 have d0 : d ≠ 0 := fun c => by rw [c, lb_zero] at hk; simp at hk
 have q1 := lb_lt a
 have q2 := lb_ge d d0
 have q3 : (4294967296 : Int) ^ (lb a).length <= (d : Int) * 4294967296 ^ m := by
  have e2 : (lb a).length = (lb d).length - 1 + m := by omega
  rw [e2, Int.pow_add]
  exact Int.mul_le_mul_of_nonneg_right q2 (Int.le_of_lt (pow_pos32 _))
 have q4 : (a : Int) * ((2 ^ n : Nat) : Int) < (d : Int) * 4294967296 ^ m * ((2 ^ n : Nat) : Int) := Int.mul_lt_mul_of_pos_right (by omega) (by omega)
 have q5 : (d : Int) * 4294967296 ^ m * ((2 ^ n : Nat) : Int) = (d : Int) * ((2 ^ n : Nat) : Int) * 4294967296 ^ m := by
  generalize (4294967296 : Int) ^ m = p
  grind
 rw [<- q5]
 exact q4
theorem Dv.fin {a d n m L : Nat} {us' qs' : List Int} {i : Int} (hd : 0 < d) (hv : val (lb (d * 2 ^ n)) = (d : Int) * ((2 ^ n : Nat) : Int)) (q : QInv ((a : Int) * ((2 ^ n : Nat) : Int)) (val (lb (d * 2 ^ n))) (lb (d * 2 ^ n)) m L i us' qs') (hi : i = -1) : val qs' = ((a / d : Nat) : Int) /\ val us' = (((a % d) * 2 ^ n : Nat) : Int) := by
 have hp : 0 < 2 ^ n := Nat.pow_pos (by decide)
 have h1 := q.v
 have h2 := q.ult
 have h3 := val_nonneg q.uok
 have h4 := val_nonneg q.qok
 have e : (i + 1).toNat = 0 := by omega
 rw [e] at h2
 rw [hv] at h1 h2
 obtain ⟨u, hu⟩ : ∃ u : Nat, val us' = u := ⟨(val us').toNat, by omega⟩
 obtain ⟨w, hw⟩ : ∃ u : Nat, val qs' = u := ⟨(val qs').toNat, by omega⟩
 rw [hu, hw] at h1
 rw [hu] at h2
 rw [hu, hw]
 have g1 : a * 2 ^ n = u + w * (d * 2 ^ n) := by
  have : ((a * 2 ^ n : Nat) : Int) = ((u + w * (d * 2 ^ n) : Nat) : Int) := by
   simp only [Int.natCast_add, Int.natCast_mul]; exact h1
  omega
 have g2 : u < d * 2 ^ n := by
  have : (u : Int) < ((d * 2 ^ n : Nat) : Int) := by
   simp only [Int.natCast_mul]
   simpa using h2
  omega
 have hdp : 0 < d * 2 ^ n := Nat.mul_pos hd hp
 have g3 : a * 2 ^ n / (d * 2 ^ n) = w := by
  rw [g1, Nat.mul_comm w, Nat.add_mul_div_left _ _ hdp, Nat.div_eq_of_lt g2, Nat.zero_add]
 have g4 : a * 2 ^ n % (d * 2 ^ n) = u := by
  rw [g1, Nat.mul_comm w, Nat.add_mul_mod_self_left, Nat.mod_eq_of_lt g2]
 rw [Nat.mul_div_mul_right _ _ hp] at g3
 rw [Nat.mul_mod_mul_right] at g4
 rw [g3, g4]
 exact ⟨rfl, rfl⟩
/-- A name for a value (cheaper than obtain, where the goal is great). -/
theorem exVar {α : Type} (x : α) {p : Prop} (h : ∀ y, y = x -> p) : p := h x rfl
theorem take_getD {xs : List Int} {n j : Nat} (h : j < n) : (xs.take n).getD j 0 = xs.getD j 0 := by
 simp only [List.getD_eq_getElem?_getD, List.getElem?_take, h, if_true]
/-- What the program computes on its way to a digit. -/
structure DF (u vs ws us : List Int) (i kk : Int) : Prop where
 n1 : Env.std.inb (Env.std.ib .add .i64 i kk) (Env.std.len Int us)
 n2 : Env.std.inb (Env.std.ib .sub .i64 (Env.std.ib .add .i64 i kk) 1) (Env.std.len Int us)
 n3 : Env.std.inb (Env.std.ib .sub .i64 (Env.std.ib .add .i64 i kk) 2) (Env.std.len Int us)
 n4 : Env.std.inb (Env.std.ib .sub .i64 kk 1) kk
 n5 : Env.std.inb (Env.std.ib .sub .i64 kk 2) kk
 top : Env.std.ib .or .u64 (Env.std.ib .shl .u64 (Env.std.cv .u64 (Env.std.get Int u (Env.std.ib .add .i64 i kk) 0)) 32) (Env.std.cv .u64 (Env.std.get Int u (Env.std.ib .sub .i64 (Env.std.ib .add .i64 i kk) 1) 0)) = dTop ws u i
 v1 : Env.std.cv .u64 (Env.std.get Int vs (Env.std.ib .sub .i64 kk 1) 0) = dV1 ws
 v2 : Env.std.cv .u64 (Env.std.get Int vs (Env.std.ib .sub .i64 kk 2) 0) = dV2 ws
 u2 : Env.std.cv .u64 (Env.std.get Int u (Env.std.ib .sub .i64 (Env.std.ib .add .i64 i kk) 2) 0) = dU2 ws u i
theorem DF.mk' {u vs ws us : List Int} {i kk : Int} (S : DS ws u i) (hkk : kk = ws.length) (hus : us.length = u.length) (hw : vs.take ws.length = ws) (hl : us.length <= 1099511627776) : DF u vs ws us i kk := by
 have hlen := S.len
 have hi := S.i0
 have k2 := S.k2
 have e1 : (i + kk).toNat = i.toNat + ws.length := by omega
 have e2 : (i + kk - 1).toNat = i.toNat + ws.length - 1 := by omega
 have e3 : (i + kk - 2).toNat = i.toNat + ws.length - 2 := by omega
 have e4 : (kk - 1).toNat = ws.length - 1 := by omega
 have e5 : (kk - 2).toNat = ws.length - 2 := by omega
 have w1 : Env.std.ib .add .i64 i kk = i + kk := by rw [s_add, w64 (by omega) (by omega)]
 have w2 : Env.std.ib .sub .i64 (Env.std.ib .add .i64 i kk) 1 = i + kk - 1 := by rw [w1, s_sub, w64 (by omega) (by omega)]
 have w3 : Env.std.ib .sub .i64 (Env.std.ib .add .i64 i kk) 2 = i + kk - 2 := by rw [w1, s_sub, w64 (by omega) (by omega)]
 have k1 : Env.std.ib .sub .i64 kk 1 = kk - 1 := by rw [s_sub, w64 (by omega) (by omega)]
 have k2' : Env.std.ib .sub .i64 kk 2 = kk - 2 := by rw [s_sub, w64 (by omega) (by omega)]
 have hv : ∀ j, j < ws.length -> vs.getD j 0 = ws.getD j 0 := fun j hj => by
  have h := take_getD (xs := vs) hj
  rw [hw] at h
  exact h.symm
 have a1 := S.uok.get (i.toNat + ws.length)
 have a2 := S.uok.get (i.toNat + ws.length - 1)
 have a3 := S.uok.get (i.toNat + ws.length - 2)
 have b1 := S.vok.get (ws.length - 1)
 have b2 := S.vok.get (ws.length - 2)
 refine ⟨?_, ?_, ?_, ?_, ?_, ?_, ?_, ?_, ?_⟩
 ·rw [w1, s_len, s_inb]; omega
 ·rw [w2, s_len, s_inb]; omega
 ·rw [w3, s_len, s_inb]; omega
 ·rw [k1, s_inb]; omega
 ·rw [k2', s_inb]; omega
 ·rw [w1, show Env.std.ib .sub .i64 (i + kk) 1 = i + kk - 1 from w1 ▸ w2, s_get, s_get, e1, e2, hilo a1.1 a1.2 a2.1 a2.2]; rfl
 ·rw [k1, s_get, e4, hv _ (by omega), s_cv, wu64 b1.1 (by omega)]; rfl
 ·rw [k2', s_get, e5, hv _ (by omega), s_cv, wu64 b2.1 (by omega)]; rfl
 ·rw [w3, s_get, e3, s_cv, wu64 a3.1 (by omega)]; rfl
theorem GInv.big {vs us : List Int} {i g r : Int} (h : GInv vs us i g r) : Env.std.ic .gtr (Env.std.ib .shr .u64 g 32) 0 = decide (4294967296 <= g) /\ Env.std.ic .eql (Env.std.ib .shr .u64 g 32) 0 = decide (g < 4294967296) /\ Env.std.ic .gtr (Env.std.ib .shr .u64 r 32) 0 = decide (4294967296 <= r) /\ Env.std.ic .eql (Env.std.ib .shr .u64 r 32) 0 = decide (r < 4294967296) := by
 have e : ∀ x : Int, Env.std.ib .shr .u64 x 32 = x / 4294967296 := fun x => Int.fdiv_eq_ediv_of_nonneg _ (by decide)
 have := h.g0
 have := h.r0
 rw [e, e, s_gtr, s_eql, s_gtr, s_eql]
 refine ⟨?_, ?_, ?_, ?_⟩ <;> refine decide_eq_decide.2 ?_ <;> omega
theorem GInv.cmp {u vs ws us : List Int} {i kk g r : Int} (S : DS ws u i) (F : DF u vs ws us i kk) (h : GInv ws u i g r) (hg : g < 4294967296) (hr : r < 4294967296) : Env.std.ic .gtr (Env.std.ib .mul .u64 g (Env.std.cv .u64 (Env.std.get Int vs (Env.std.ib .sub .i64 kk 2) 0))) (Env.std.ib .or .u64 (Env.std.ib .shl .u64 r 32) (Env.std.cv .u64 (Env.std.get Int u (Env.std.ib .sub .i64 (Env.std.ib .add .i64 i kk) 2) 0))) = decide (r * 4294967296 + dU2 ws u i < g * dV2 ws) := by
 have hv := S.v2
 have hu := S.u2
 have hp := prod_lt h.g0 hg hv.1 hv.2
 have h1 := hilo h.r0 hr hu.1 hu.2
 have e1 : Env.std.cv .u64 r = r := by rw [s_cv, wu64 h.r0 h.r1]
 have e2 : Env.std.cv .u64 (dU2 ws u i) = dU2 ws u i := by rw [s_cv, wu64 hu.1 (by omega)]
 rw [e1, e2] at h1
 rw [F.v2, F.u2, h1, s_mul, wu64 hp.1 (by omega), s_gtr]
theorem DS.quo {u vs ws us : List Int} {i kk : Int} (S : DS ws u i) (F : DF u vs ws us i kk) : Env.std.ib .quo .u64 (Env.std.ib .or .u64 (Env.std.ib .shl .u64 (Env.std.cv .u64 (Env.std.get Int u (Env.std.ib .add .i64 i kk) 0)) 32) (Env.std.cv .u64 (Env.std.get Int u (Env.std.ib .sub .i64 (Env.std.ib .add .i64 i kk) 1) 0))) (Env.std.cv .u64 (Env.std.get Int vs (Env.std.ib .sub .i64 kk 1) 0)) = dTop ws u i / dV1 ws := by
 have h := S.first
 rw [F.top, F.v1, s_quo, Int.tdiv_eq_ediv_of_nonneg S.t.1, wu64 h.g0 h.g1]
theorem DS.rem {u vs ws us : List Int} {i kk : Int} (S : DS ws u i) (F : DF u vs ws us i kk) : Env.std.ib .rem .u64 (Env.std.ib .or .u64 (Env.std.ib .shl .u64 (Env.std.cv .u64 (Env.std.get Int u (Env.std.ib .add .i64 i kk) 0)) 32) (Env.std.cv .u64 (Env.std.get Int u (Env.std.ib .sub .i64 (Env.std.ib .add .i64 i kk) 1) 0))) (Env.std.cv .u64 (Env.std.get Int vs (Env.std.ib .sub .i64 kk 1) 0)) = dTop ws u i % dV1 ws := by
 rw [F.top, F.v1, s_rem, Int.tmod_eq_emod_of_nonneg S.t.1]
theorem DS.nzq {u vs ws us : List Int} {i kk : Int} (S : DS ws u i) (F : DF u vs ws us i kk) : Env.std.nz .quo (Env.std.cv .u64 (Env.std.get Int vs (Env.std.ib .sub .i64 kk 1) 0)) := by
 have h := S.v1
 rw [F.v1, nz_quo]; omega
theorem DS.nzr {u vs ws us : List Int} {i kk : Int} (S : DS ws u i) (F : DF u vs ws us i kk) : Env.std.nz .rem (Env.std.cv .u64 (Env.std.get Int vs (Env.std.ib .sub .i64 kk 1) 0)) := by
 have h := S.v1
 rw [F.v1, nz_rem]; omega
theorem digit_ok : InlOk Tryz.prog [(243, Tryz.f243, { ord := [(2, List.range 18), (3, List.range 18), (4, List.range 30)] })] :=
 InlOk.cons Tryz.func243 (by kernel_rfl) .nil
end Go.Proofs.YtfdealobplcboaaGreat.Sx
