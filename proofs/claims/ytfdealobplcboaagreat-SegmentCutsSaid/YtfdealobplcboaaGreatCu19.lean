/- Part 19 of what the statement needs: an executor of Go texts, arithmetic, and contracts of the functions that are called. -/
import Derived.Test.YtfdealobplcboaaGreatCu7
import Derived.Test.YtfdealobplcboaaGreatCu8
import Derived.Test.YtfdealobplcboaaGreatCu12
import Derived.Test.YtfdealobplcboaaGreatCu13
import Derived.Test.YtfdealobplcboaaGreatCu15
import Derived.Test.YtfdealobplcboaaGreatCu18
set_option linter.unusedVariables false
set_option linter.unusedSimpArgs false
namespace Go.Proofs.YtfdealobplcboaaGreat.Sx
theorem mul_neg_iff {a b : Rat} : a * b < 0 ↔ (a < 0 /\ 0 < b) \/ (0 < a /\ b < 0) := by
 constructor
 ·intro h
  by_cases ha : 0 < a
  ·refine .inr ⟨ha, ?_⟩
   exact (Rat.mul_neg_iff_of_pos_left ha).1 h
  ·by_cases hb : 0 < b
   ·refine .inl ⟨?_, hb⟩
    exact (Rat.mul_neg_iff_of_pos_right hb).1 h
   ·have := Rat.mul_nonneg (a := -a) (b := -b) (by grind) (by grind)
    grind
 ·rintro (⟨h1, h2⟩ | ⟨h1, h2⟩)
  ·exact (Rat.mul_neg_iff_of_pos_right h2).2 h1
  ·exact (Rat.mul_neg_iff_of_pos_left h1).2 h2
theorem mul_pos_iff {a b : Rat} : 0 < a * b ↔ (0 < a /\ 0 < b) \/ (a < 0 /\ b < 0) := by
 have := mul_neg_iff (a := a) (b := -b)
 constructor
 ·intro h
  have h2 : a * -b < 0 := by grind
  have := this.1 h2
  grind
 ·intro h
  have : a * -b < 0 := this.2 (by grind)
  grind
theorem sgn_mul {a b : Rat} : cmpQ a 0 * cmpQ b 0 = -1 ↔ a * b < 0 := by
 rw [mul_neg_iff]
 unfold cmpQ
 by_cases h1 : a < 0 <;> by_cases h2 : 0 < a <;> by_cases h3 : b < 0 <;> by_cases h4 : 0 < b <;> simp [h1, h2, h3, h4] <;> grind
/-- A number t with n = t d lies strictly between 0 and 1. -/
theorem frac_in {n d : Rat} (hd : d ≠ 0) : n * (n - d) < 0 ↔ 0 < n / d /\ n / d < 1 := by
 obtain ⟨t, ht⟩ : ∃ t, t = n / d := ⟨_, rfl⟩
 have hn : n = t * d := by grind
 rw [<- ht, hn]
 have h2 : 0 < d * d := by
  rw [mul_pos_iff]; grind
 have e : t * d * (t * d - d) = (d * d) * (t * (t - 1)) := by grind
 rw [e, Rat.mul_neg_iff_of_pos_left h2, mul_neg_iff]
 grind
def sidesQ (s t : Sq) : Prop := orQ s.a s.b t.a * orQ s.a s.b t.b = -1 /\ orQ t.a t.b s.a * orQ t.a t.b s.b = -1
theorem unitQ_iff {t : Rat} : unitQ t = true ↔ 0 <= t /\ t <= 1 := by
 unfold unitQ
 rw [decide_eq_true_iff, cmpQ_ge, cmpQ_le]
theorem chkQ_iff {s : Sq} : chkQ s ≠ 0 ↔ s.a = s.b := by
 unfold chkQ
 rw [<- cmpP_eq]
 split <;> simp_all
theorem wrongQ_iff {s t : Sq} : wrongQ s t = true ↔ s.a = s.b \/ t.a = t.b := by
 unfold wrongQ
 rw [decide_eq_true_iff, chkQ_iff, chkQ_iff]
theorem crossQ_iff {s t : Sq} : crossQ s t = true ↔ wrongQ s t = false /\ ∃ m, meetQ s t = some m /\ m.a = m.b /\ s.a ≠ m.a /\ s.b ≠ m.a /\ t.a ≠ m.a /\ t.b ≠ m.a := by
 unfold crossQ
 cases h : meetQ s t with
 | none => simp
 | some m => simp [cmpP_eq]
theorem grP_or (p q : Pq) : grP p q = p \/ grP p q = q := by unfold grP; split <;> simp
theorem lsP_or (p q : Pq) : lsP p q = p \/ lsP p q = q := by unfold lsP; split <;> simp
theorem ordS_a (s : Sq) : (ordS s).a = s.a \/ (ordS s).a = s.b := by unfold ordS; split <;> simp
theorem ordS_b (s : Sq) : (ordS s).b = s.a \/ (ordS s).b = s.b := by unfold ordS; split <;> simp
/-- Where two segments are parallel, their common points begin with an end. -/
theorem meet_par {s t m : Sq} (h : meetQ s t = some m) (hd : (s.b.sub s.a).cross (t.b.sub t.a) = 0) : m.a = s.a \/ m.a = s.b \/ m.a = t.a \/ m.a = t.b := by
 unfold meetQ at h
 rw [if_neg (by rw [cmpQ_eq.2 hd]; simp)] at h
 split at h
 ·cases h
 ·split at h
  ·cases h
  ·injection h with h
   rw [<- h]
   have := grP_or (ordS s).a (ordS t).a
   have := ordS_a s
   have := ordS_a t
   grind
theorem meet_gen {s t : Sq} (hd : (s.b.sub s.a).cross (t.b.sub t.a) ≠ 0) {x y : Rat} (hx : x = ((t.a.sub s.a).cross (t.b.sub t.a)) / ((s.b.sub s.a).cross (t.b.sub t.a))) (hy : y = ((t.a.sub s.a).cross (s.b.sub s.a)) / ((s.b.sub s.a).cross (t.b.sub t.a))) :
  meetQ s t = if (0 <= x /\ x <= 1) /\ (0 <= y /\ y <= 1) then some ⟨s.a.at s.b x, s.a.at s.b x⟩ else none := by
 unfold meetQ
 rw [if_pos (by rw [ne_eq, cmpQ_eq]; exact hd), <- hx, <- hy]
 simp only [unitQ_iff]
theorem cross_iff (s t : Sq) : crossQ s t = true ↔ sidesQ s t := by
 unfold sidesQ orQ
 rw [sgn_mul, sgn_mul, crossQ_iff]
 obtain ⟨d, hd⟩ : ∃ d, d = (s.b.sub s.a).cross (t.b.sub t.a) := ⟨_, rfl⟩
 obtain ⟨p, hp⟩ : ∃ d, d = (t.a.sub s.a).cross (t.b.sub t.a) := ⟨_, rfl⟩
 obtain ⟨q, hq⟩ : ∃ d, d = (t.a.sub s.a).cross (s.b.sub s.a) := ⟨_, rfl⟩
 have e1 : (s.b.sub s.a).cross (t.a.sub s.a) = -q := by rw [hq]; simp only [Pq.cross, Pq.sub]; grind
 have e2 : (s.b.sub s.a).cross (t.b.sub s.a) = d - q := by rw [hq, hd]; simp only [Pq.cross, Pq.sub]; grind
 have e3 : (t.b.sub t.a).cross (s.a.sub t.a) = p := by rw [hp]; simp only [Pq.cross, Pq.sub]; grind
 have e4 : (t.b.sub t.a).cross (s.b.sub t.a) = p - d := by rw [hp, hd]; simp only [Pq.cross, Pq.sub]; grind
 rw [e1, e2, e3, e4]
 have e5 : -q * (d - q) = q * (q - d) := by grind
 rw [e5]
 by_cases h0 : d = 0
 ·-- parallel: neither
  have hR : ¬ (q * (q - d) < 0 /\ p * (p - d) < 0) := by
   rintro ⟨h, _⟩
   rw [h0, mul_neg_iff] at h
   grind
  refine iff_of_false ?_ hR
  rintro ⟨_, m, hm, _, h1, h2, h3, h4⟩
  have := meet_par hm (by rw [<- hd, h0])
  grind
 ·rw [frac_in h0, frac_in h0]
  obtain ⟨x, hx⟩ : ∃ x, x = p / d := ⟨_, rfl⟩
  obtain ⟨y, hy⟩ : ∃ x, x = q / d := ⟨_, rfl⟩
  have hm := meet_gen (s := s) (t := t) (x := x) (y := y) (by rw [<- hd]; exact h0) (by rw [<- hd, <- hp]; exact hx) (by rw [<- hd, <- hq]; exact hy)
  have px : p = x * d := by grind
  have qy : q = y * d := by grind
  rw [hm, <- hx, <- hy]
  clear hx hy hm
  obtain ⟨⟨ax, ay⟩, ⟨bx, by'⟩⟩ := s
  obtain ⟨⟨cx, cy⟩, ⟨dx, dy⟩⟩ := t
  simp only [Pq.cross, Pq.sub] at hd hp hq e1 e2 e3 e4
  clear e1 e2 e3 e4 e5
  -- the common point, seen from the other segment
  have f1 : ax + (bx - ax) * x = cx + (dx - cx) * y := by grind
  have f2 : ay + (by' - ay) * x = cy + (dy - cy) * y := by grind
  have nab : ¬ (ax = bx /\ ay = by') := by grind
  have ncd : ¬ (cx = dx /\ cy = dy) := by grind
  have hw : wrongQ ⟨⟨ax, ay⟩, ⟨bx, by'⟩⟩ ⟨⟨cx, cy⟩, ⟨dx, dy⟩⟩ = false := by
   rw [<- Bool.not_eq_true, wrongQ_iff]
   simp only [Pq.iff]
   grind
  rw [hw]
  constructor
  ·rintro ⟨_, m, h1, _, h2, h3, h4, h5⟩
   split at h1
   ·rename_i hh
    injection h1 with h1
    rw [<- h1] at h2 h3 h4 h5
    simp only [Pq.at, Pq.add, Pq.sub, Pq.scale, ne_eq, Pq.iff] at h2 h3 h4 h5
    rw [f1, f2] at h4 h5
    refine ⟨⟨?_, ?_⟩, ⟨?_, ?_⟩⟩
    ·refine Rat.lt_of_le_of_ne hh.2.1 (fun e => h4 ?_); rw [<- e]; grind
    ·refine Rat.lt_of_le_of_ne hh.2.2 (fun e => h5 ?_); rw [e]; grind
    ·refine Rat.lt_of_le_of_ne hh.1.1 (fun e => h2 ?_); rw [<- e]; grind
    ·refine Rat.lt_of_le_of_ne hh.1.2 (fun e => h3 ?_); rw [e]; grind
   ·cases h1
  ·rintro ⟨⟨h1, h2⟩, h3, h4⟩
   rw [if_pos ⟨⟨Rat.le_of_lt h3, Rat.le_of_lt h4⟩, Rat.le_of_lt h1, Rat.le_of_lt h2⟩]
   refine ⟨rfl, _, rfl, rfl, ?_, ?_, ?_, ?_⟩
   ·simp only [Pq.at, Pq.add, Pq.sub, Pq.scale, ne_eq, Pq.iff]
    rintro ⟨g1, g2⟩
    have : (bx - ax) * x = 0 := by grind
    have : (by' - ay) * x = 0 := by grind
    grind
   ·simp only [Pq.at, Pq.add, Pq.sub, Pq.scale, ne_eq, Pq.iff]
    rintro ⟨g1, g2⟩
    have : (bx - ax) * (x - 1) = 0 := by grind
    have : (by' - ay) * (x - 1) = 0 := by grind
    grind
   ·simp only [Pq.at, Pq.add, Pq.sub, Pq.scale, ne_eq, Pq.iff]
    rw [f1, f2]
    rintro ⟨g1, g2⟩
    have : (dx - cx) * y = 0 := by grind
    have : (dy - cy) * y = 0 := by grind
    grind
   ·simp only [Pq.at, Pq.add, Pq.sub, Pq.scale, ne_eq, Pq.iff]
    rw [f1, f2]
    rintro ⟨g1, g2⟩
    have : (dx - cx) * (y - 1) = 0 := by grind
    have : (dy - cy) * (y - 1) = 0 := by grind
    grind
theorem cmpP_lt {p q : Pq} : cmpP p q < 0 ↔ p.x < q.x \/ (p.x = q.x /\ p.y < q.y) := by
 unfold cmpP cmpQ; grind
theorem cmpP_gt {p q : Pq} : 0 < cmpP p q ↔ q.x < p.x \/ (p.x = q.x /\ q.y < p.y) := by
 unfold cmpP cmpQ; grind
theorem cmpP_le {p q : Pq} : cmpP p q <= 0 ↔ p.x < q.x \/ (p.x = q.x /\ p.y <= q.y) := by
 unfold cmpP cmpQ; grind
theorem cmpP_ge {p q : Pq} : 0 <= cmpP p q ↔ q.x < p.x \/ (p.x = q.x /\ q.y <= p.y) := by
 unfold cmpP cmpQ; grind
theorem cmpP_mul {a b c d : Pq} : 0 <= cmpP a b * cmpP c d ↔ (cmpP a b <= 0 /\ cmpP c d <= 0) \/ (0 <= cmpP a b /\ 0 <= cmpP c d) := by
 rcases cmpP_rng a b with h | h | h <;> rcases cmpP_rng c d with h' | h' | h' <;> rw [h, h'] <;> decide
/-- The points of a segment. -/
def OnS (s : Sq) (p : Pq) : Prop := ∃ t : Rat, 0 <= t /\ t <= 1 /\ p = s.a.at s.b t
theorem mul_le_self {a t : Rat} (ha : 0 <= a) (h0 : 0 <= t) (h1 : t <= 1) : 0 <= a * t /\ a * t <= a := by
 have h2 := Rat.mul_nonneg ha h0
 have h3 := Rat.mul_nonneg ha (show 0 <= 1 - t by grind)
 grind
theorem div_in {n d : Rat} (hd : 0 < d) : (0 <= n / d ↔ 0 <= n) /\ (n / d <= 1 ↔ n <= d) := by
 obtain ⟨t, ht⟩ : ∃ t, t = n / d := ⟨_, rfl⟩
 have hn : n = d * t := by grind
 rw [<- ht]
 constructor
 ·constructor
  ·intro h; have := Rat.mul_nonneg (Rat.le_of_lt hd) h; grind
  ·intro h
   refine Decidable.byContradiction fun c => ?_
   have := (Rat.mul_neg_iff_of_pos_left hd).2 (show t < 0 by grind)
   grind
 ·constructor
  ·intro h; have := Rat.mul_nonneg (Rat.le_of_lt hd) (show 0 <= 1 - t by grind); grind
  ·intro h
   refine Decidable.byContradiction fun c => ?_
   have := (Rat.mul_neg_iff_of_pos_left hd).2 (show 1 - t < 0 by grind)
   grind
theorem on_iff (s : Sq) (p : Pq) : onQ s p = true ↔ OnS s p := by
 obtain ⟨⟨ax, ay⟩, ⟨bx, by'⟩⟩ := s
 obtain ⟨px, py⟩ := p
 unfold onQ btwQ OnS orQ
 rw [decide_eq_true_iff, cmpQ_eq, cmpP_mul, cmpP_le, cmpP_le, cmpP_ge, cmpP_ge, ne_eq, cmpP_eq, cmpP_eq]
 simp only [Pq.cross, Pq.sub, Pq.at, Pq.add, Pq.scale, Pq.iff]
 constructor
 ·rintro ⟨h1, h2, h3⟩
  by_cases hab : ax = bx /\ ay = by'
  ·exact ⟨0, by grind, by grind, by grind, by grind⟩
  ·by_cases hx : ax = bx
   ·have hy : by' ≠ ay := by grind
    have hpx : px = ax := by
     have : (by' - ay) * (px - ax) = 0 := by grind
     grind
    refine ⟨(py - ay) / (by' - ay), ?_, ?_, by grind, by grind⟩
    ·by_cases g : ay < by'
     ·rw [(div_in (by grind)).1]; grind
     ·have e : (py - ay) / (by' - ay) = (ay - py) / (ay - by') := by grind
      rw [e, (div_in (by grind)).1]; grind
    ·by_cases g : ay < by'
     ·rw [(div_in (by grind)).2]; grind
     ·have e : (py - ay) / (by' - ay) = (ay - py) / (ay - by') := by grind
      rw [e, (div_in (by grind)).2]; grind
   ·refine ⟨(px - ax) / (bx - ax), ?_, ?_, by grind, by grind⟩
    ·by_cases g : ax < bx
     ·rw [(div_in (by grind)).1]; grind
     ·have e : (px - ax) / (bx - ax) = (ax - px) / (ax - bx) := by grind
      rw [e, (div_in (by grind)).1]; grind
    ·by_cases g : ax < bx
     ·rw [(div_in (by grind)).2]; grind
     ·have e : (px - ax) / (bx - ax) = (ax - px) / (ax - bx) := by grind
      rw [e, (div_in (by grind)).2]; grind
 ·rintro ⟨t, h0, h1, h2, h3⟩
  refine ⟨by grind, ?_, ?_⟩
  ·by_cases g : ax < bx
   ·have := mul_le_self (a := bx - ax) (t := t) (by grind) h0 h1
    by_cases g2 : ay <= by'
    ·have := mul_le_self (a := by' - ay) (t := t) (by grind) h0 h1
     by_cases e0 : px = ax
     ·have : (bx - ax) * t = 0 := by grind
      have : t = 0 := by grind
      grind
     ·by_cases e1 : px = bx
      ·have : (bx - ax) * (t - 1) = 0 := by grind
       have : t = 1 := by grind
       grind
      ·grind
    ·by_cases e0 : px = ax
     ·have : (bx - ax) * t = 0 := by grind
      have : t = 0 := by grind
      grind
     ·by_cases e1 : px = bx
      ·have : (bx - ax) * (t - 1) = 0 := by grind
       have : t = 1 := by grind
       grind
      ·grind
   ·by_cases g' : bx < ax
    ·have := mul_le_self (a := ax - bx) (t := t) (by grind) h0 h1
     by_cases e0 : px = ax
     ·have : (bx - ax) * t = 0 := by grind
      have : t = 0 := by grind
      grind
     ·by_cases e1 : px = bx
      ·have : (bx - ax) * (t - 1) = 0 := by grind
       have : t = 1 := by grind
       grind
      ·grind
    ·have hx : ax = bx := by grind
     by_cases g2 : ay <= by'
     ·have := mul_le_self (a := by' - ay) (t := t) (by grind) h0 h1
      grind
     ·have := mul_le_self (a := ay - by') (t := t) (by grind) h0 h1
      grind
  ·by_cases hab : ax = bx /\ ay = by'
   ·grind
   ·exact .inl hab
/-- The lexicographic order. -/
def leP (p q : Pq) : Prop := p.x < q.x \/ (p.x = q.x /\ p.y <= q.y)
theorem leP_cmp {p q : Pq} : cmpP p q <= 0 ↔ leP p q := cmpP_le
theorem leP_cmp' {p q : Pq} : 0 <= cmpP p q ↔ leP q p := by
 rw [cmpP_ge]; unfold leP; grind
theorem leP_lt {p q : Pq} : ¬ leP p q ↔ 0 < cmpP p q := by
 rw [cmpP_gt]; unfold leP; grind
theorem leP_anti {p q : Pq} (h : leP p q) (h' : leP q p) : p = q := by
 unfold leP at h h'
 exact Pq.ext' (by grind) (by grind)
theorem leP_refl (p : Pq) : leP p p := by unfold leP; grind
theorem leP_trans {p q r : Pq} (h : leP p q) (h' : leP q r) : leP p r := by unfold leP at *; grind
theorem leP_total (p q : Pq) : leP p q \/ leP q p := by unfold leP; grind
theorem ordS_le (s : Sq) : leP (ordS s).a (ordS s).b := by
 unfold ordS
 split
 ·rename_i h; rw [cmpP_gt] at h; unfold leP; grind
 ·rename_i h; rw [<- leP_lt] at h; simpa using h
theorem on_lex (s : Sq) (p : Pq) : OnS s p ↔ (s.b.sub s.a).cross (p.sub s.a) = 0 /\ leP (ordS s).a p /\ leP p (ordS s).b := by
 rw [<- on_iff]
 unfold onQ btwQ orQ
 rw [decide_eq_true_iff, cmpQ_eq, cmpP_mul, leP_cmp, leP_cmp, leP_cmp', leP_cmp', ne_eq, cmpP_eq, cmpP_eq]
 refine and_congr_right fun _ => ?_
 unfold ordS
 split
 ·rename_i h
  rw [<- leP_lt] at h
  have n : ¬ s.a = s.b := fun e => h (by rw [e]; exact leP_refl _)
  constructor
  ·rintro ⟨h1 | h1, _⟩
   ·exact absurd (leP_trans h1.1 h1.2) h
   ·exact ⟨h1.2, h1.1⟩
  ·intro h1; exact ⟨.inr ⟨h1.2, h1.1⟩, .inl n⟩
 ·rename_i h
  rw [<- leP_lt, Classical.not_not] at h
  constructor
  ·rintro ⟨h1 | h1, h2⟩
   ·exact h1
   ·rcases h2 with h2 | h2
    ·exact absurd (leP_anti h (leP_trans h1.2 h1.1)) h2
    ·rw [<- h2]; exact ⟨leP_refl _, h⟩
  ·intro h1
   refine ⟨.inl h1, ?_⟩
   by_cases e : s.a = s.b
   ·rw [<- e] at h1; exact .inr (leP_anti h1.1 h1.2)
   ·exact .inl e
theorem gr_le {p q x : Pq} : leP (grP p q) x ↔ leP p x /\ leP q x := by
 unfold grP
 split
 ·rename_i h
  have h : leP p q := by rw [cmpP_lt] at h; unfold leP; grind
  exact ⟨fun g => ⟨leP_trans h g, g⟩, fun g => g.2⟩
 ·rename_i h
  have h : leP q p := by rw [<- leP_cmp']; omega
  exact ⟨fun g => ⟨g, leP_trans h g⟩, fun g => g.1⟩
theorem ls_le {p q x : Pq} : leP x (lsP p q) ↔ leP x p /\ leP x q := by
 unfold lsP
 split
 ·rename_i h
  have h : leP p q := by rw [cmpP_lt] at h; unfold leP; grind
  exact ⟨fun g => ⟨g, leP_trans g h⟩, fun g => g.1⟩
 ·rename_i h
  have h : leP q p := by rw [<- leP_cmp']; omega
  exact ⟨fun g => ⟨leP_trans g h, g⟩, fun g => g.2⟩
/-- Parallel vectors. -/
theorem par {u v : Pq} (hu : ¬ (u.x = 0 /\ u.y = 0)) (h : u.cross v = 0) : ∃ k, v.x = k * u.x /\ v.y = k * u.y := by
 unfold Pq.cross at h
 by_cases hx : u.x = 0
 ·have hy : u.y ≠ 0 := fun e => hu ⟨hx, e⟩
  refine ⟨v.y / u.y, ?_, by grind⟩
  have : u.y * v.x = 0 := by grind
  grind
 ·exact ⟨v.x / u.x, by grind, by grind⟩
theorem at_on {s : Sq} : OnS s s.a /\ OnS s s.b := by
 refine ⟨⟨0, by grind, by grind, Pq.ext' ?_ ?_⟩, ⟨1, by grind, by grind, Pq.ext' ?_ ?_⟩⟩ <;> simp only [Pq.at, Pq.add, Pq.sub, Pq.scale] <;> grind
theorem ord_cases (s : Sq) : ((ordS s).a = s.a /\ (ordS s).b = s.b) \/ ((ordS s).a = s.b /\ (ordS s).b = s.a) := by
 unfold ordS; split <;> simp
/-- What the common points of two valid segments are. -/
theorem meet_on {s t : Sq} (hs : s.a ≠ s.b) (ht : t.a ≠ t.b) (x : Pq) : OnS s x /\ OnS t x ↔ ∃ m, meetQ s t = some m /\ OnS m x := by
 by_cases h0 : (s.b.sub s.a).cross (t.b.sub t.a) = 0
 ·by_cases h1 : (s.b.sub s.a).cross (t.a.sub s.a) = 0
  ·-- on one line
   have hu : ¬ ((s.b.sub s.a).x = 0 /\ (s.b.sub s.a).y = 0) := fun h => hs (Pq.ext' (by have := h.1; simp only [Pq.sub] at this; grind) (by have := h.2; simp only [Pq.sub] at this; grind))
   obtain ⟨k, hk1, hk2⟩ := par hu h0
   obtain ⟨j, hj1, hj2⟩ := par hu h1
   have hk : k ≠ 0 := by
    intro e
    refine ht (Pq.ext' ?_ ?_)
    ·simp only [Pq.sub] at hk1; grind
    ·simp only [Pq.sub] at hk2; grind
   have hL : ∀ p : Pq, (t.b.sub t.a).cross (p.sub t.a) = 0 ↔ (s.b.sub s.a).cross (p.sub s.a) = 0 := by
    intro p
    have e : (t.b.sub t.a).cross (p.sub t.a) = k * (s.b.sub s.a).cross (p.sub s.a) := by
     simp only [Pq.cross, Pq.sub] at *
     grind
    rw [e, Rat.mul_eq_zero]
    exact ⟨fun h => h.resolve_left hk, .inr⟩
   rw [on_lex, on_lex, hL]
   have hm : meetQ s t = if cmpP (grP (ordS s).a (ordS t).a) (lsP (ordS s).b (ordS t).b) > 0 then none else some ⟨grP (ordS s).a (ordS t).a, lsP (ordS s).b (ordS t).b⟩ := by
    unfold meetQ
    rw [if_neg (by rw [cmpQ_eq.2 h0]; simp), if_neg (by rw [cmpQ_eq.2 h1]; simp)]
   obtain ⟨a, ha⟩ : ∃ a, a = grP (ordS s).a (ordS t).a := ⟨_, rfl⟩
   obtain ⟨b, hb⟩ : ∃ a, a = lsP (ordS s).b (ordS t).b := ⟨_, rfl⟩
   have hx : (leP (ordS s).a x /\ leP x (ordS s).b) /\ (leP (ordS t).a x /\ leP x (ordS t).b) ↔ leP a x /\ leP x b := by
    rw [ha, hb, gr_le, ls_le]
    exact ⟨fun h => ⟨⟨h.1.1, h.2.1⟩, h.1.2, h.2.2⟩, fun h => ⟨⟨h.1.1, h.2.1⟩, h.1.2, h.2.2⟩⟩
   have hleft : ((s.b.sub s.a).cross (x.sub s.a) = 0 /\ leP (ordS s).a x /\ leP x (ordS s).b) /\ (s.b.sub s.a).cross (x.sub s.a) = 0 /\ leP (ordS t).a x /\ leP x (ordS t).b ↔ (s.b.sub s.a).cross (x.sub s.a) = 0 /\ leP a x /\ leP x b := by
    rw [<- hx]
    exact ⟨fun h => ⟨h.1.1, h.1.2, h.2.2⟩, fun h => ⟨⟨h.1, h.2.1⟩, h.1, h.2.2⟩⟩
   rw [hleft, hm, <- ha, <- hb]
   -- a and b lie on the line
   have lS : (s.b.sub s.a).cross (s.a.sub s.a) = 0 /\ (s.b.sub s.a).cross (s.b.sub s.a) = 0 := by simp only [Pq.cross, Pq.sub]; grind
   have lT : (s.b.sub s.a).cross (t.a.sub s.a) = 0 /\ (s.b.sub s.a).cross (t.b.sub s.a) = 0 := by
    refine ⟨h1, ?_⟩
    rw [<- hL]; simp only [Pq.cross, Pq.sub]; grind
   have la : (s.b.sub s.a).cross (a.sub s.a) = 0 := by
    rcases grP_or (ordS s).a (ordS t).a with h | h <;> rw [ha, h]
    ·rcases ordS_a s with h | h <;> rw [h]
     ·exact lS.1
     ·exact lS.2
    ·rcases ordS_a t with h | h <;> rw [h]
     ·exact lT.1
     ·exact lT.2
   have lb : (s.b.sub s.a).cross (b.sub s.a) = 0 := by
    rcases lsP_or (ordS s).b (ordS t).b with h | h <;> rw [hb, h]
    ·rcases ordS_b s with h | h <;> rw [h]
     ·exact lS.1
     ·exact lS.2
    ·rcases ordS_b t with h | h <;> rw [h]
     ·exact lT.1
     ·exact lT.2
   split
   ·rename_i hc
    have hc : ¬ leP a b := leP_lt.2 hc
    constructor
    ·rintro ⟨_, h2, h3⟩; exact absurd (leP_trans h2 h3) hc
    ·rintro ⟨m, h, _⟩; cases h
   ·rename_i hc
    have hc : leP a b := by rw [<- leP_cmp]; omega
    have ho : ordS ⟨a, b⟩ = ⟨a, b⟩ := by
     unfold ordS
     rw [if_neg (by rw [<- leP_lt, Classical.not_not]; exact hc)]
    have hR : (∃ m, some (⟨a, b⟩ : Sq) = some m /\ OnS m x) ↔ OnS ⟨a, b⟩ x := by
     constructor
     ·rintro ⟨m, h, h'⟩; injection h with h; rw [h]; exact h'
     ·intro h; exact ⟨_, rfl, h⟩
    rw [hR, on_lex, ho]
    constructor
    ·rintro ⟨h2, h3, h4⟩
     refine ⟨?_, h3, h4⟩
     obtain ⟨k1, q1, q2⟩ := par hu la
     obtain ⟨k2, q3, q4⟩ := par hu lb
     obtain ⟨k3, q5, q6⟩ := par hu h2
     simp only [Pq.cross, Pq.sub] at *
     grind
    ·rintro ⟨h2, h3, h4⟩
     refine ⟨?_, h3, h4⟩
     by_cases e : a = b
     ·rw [<- e] at h4
      rw [<- leP_anti h3 h4]; exact la
     ·obtain ⟨k1, q1, q2⟩ := par hu la
      obtain ⟨k2, q3, q4⟩ := par hu lb
      have ne : k2 - k1 ≠ 0 := by
       intro e'
       refine e (Pq.ext' ?_ ?_)
       ·simp only [Pq.sub] at q1 q3; grind
       ·simp only [Pq.sub] at q2 q4; grind
      have e2 : (b.sub a).cross (x.sub a) = (k2 - k1) * (s.b.sub s.a).cross (x.sub s.a) := by
       simp only [Pq.cross, Pq.sub] at *
       grind
      have h2 : (b.sub a).cross (x.sub a) = 0 := h2
      rw [e2, Rat.mul_eq_zero] at h2
      exact h2.resolve_left ne
  ·-- parallel lines
   have hm : meetQ s t = none := by
    unfold meetQ
    rw [if_neg (by rw [cmpQ_eq.2 h0]; simp), if_pos (by rw [ne_eq, cmpQ_eq]; exact h1)]
   rw [hm]
   refine iff_of_false ?_ (by rintro ⟨m, h, _⟩; cases h)
   rintro ⟨⟨l, _, _, hl⟩, ⟨n, _, _, hn⟩⟩
   rw [hl] at hn
   have := Pq.iff.1 hn
   simp only [Pq.at, Pq.add, Pq.sub, Pq.scale, Pq.cross] at *
   refine h1 ?_
   grind
 ·-- one common point at most
  obtain ⟨u, hu⟩ : ∃ x, x = ((t.a.sub s.a).cross (t.b.sub t.a)) / ((s.b.sub s.a).cross (t.b.sub t.a)) := ⟨_, rfl⟩
  obtain ⟨v, hv⟩ : ∃ x, x = ((t.a.sub s.a).cross (s.b.sub s.a)) / ((s.b.sub s.a).cross (t.b.sub t.a)) := ⟨_, rfl⟩
  rw [meet_gen h0 hu hv]
  have eu : (t.a.sub s.a).cross (t.b.sub t.a) = u * (s.b.sub s.a).cross (t.b.sub t.a) := by grind
  have ev : (t.a.sub s.a).cross (s.b.sub s.a) = v * (s.b.sub s.a).cross (t.b.sub t.a) := by grind
  have f : s.a.at s.b u = t.a.at t.b v := by
   refine Pq.ext' ?_ ?_
   ·simp only [Pq.at, Pq.add, Pq.sub, Pq.scale, Pq.cross] at *; grind
   ·simp only [Pq.at, Pq.add, Pq.sub, Pq.scale, Pq.cross] at *; grind
  constructor
  ·rintro ⟨⟨l, l0, l1, hl⟩, ⟨n, n0, n1, hn⟩⟩
   have hh := Pq.iff.1 (hl.symm.trans hn)
   have el : l = u := by
    have : (l - u) * (s.b.sub s.a).cross (t.b.sub t.a) = 0 := by
     simp only [Pq.at, Pq.add, Pq.sub, Pq.scale, Pq.cross] at *; grind
    grind
   have en : n = v := by
    have : (n - v) * (s.b.sub s.a).cross (t.b.sub t.a) = 0 := by
     simp only [Pq.at, Pq.add, Pq.sub, Pq.scale, Pq.cross] at *; grind
    grind
   rw [<- el, <- en, if_pos ⟨⟨l0, l1⟩, n0, n1⟩]
   refine ⟨_, rfl, 0, by grind, by grind, ?_⟩
   rw [hl]
   refine Pq.ext' ?_ ?_ <;> simp only [Pq.at, Pq.add, Pq.sub, Pq.scale] <;> grind
  ·rintro ⟨m, h, w, _, _, hw⟩
   split at h
   ·rename_i hh
    injection h with h
    have : x = s.a.at s.b u := by
     rw [hw, <- h]
     refine Pq.ext' ?_ ?_ <;> simp only [Pq.at, Pq.add, Pq.sub, Pq.scale] <;> grind
    exact ⟨⟨u, hh.1.1, hh.1.2, this⟩, ⟨v, hh.2.1, hh.2.2, by rw [this, f]⟩⟩
   ·cases h
end Go.Proofs.YtfdealobplcboaaGreat.Sx

set_option linter.unusedVariables false
set_option linter.unusedSimpArgs false
set_option maxRecDepth 100000
set_option maxHeartbeats 4000000
namespace Go.Proofs.YtfdealobplcboaaGreat.Sx
end Go.Proofs.YtfdealobplcboaaGreat.Sx

set_option linter.unusedVariables false
set_option linter.unusedSimpArgs false
set_option maxRecDepth 100000
set_option maxHeartbeats 8000000
namespace Go.Proofs.YtfdealobplcboaaGreat.Sx
theorem great_big (l : List Pt) (hl : l.length <= 9223372036854775807) : Con Tryz.prog 15 [.ro cP l] (.v (.bool (bigL l))) := by
 obtain ⟨r, hr⟩ : ∃ r, r = bigL l := ⟨_, rfl⟩
 rw [<- hr]
 obtain ⟨i0, hi0⟩ : ∃ i : Int, i = 0 := ⟨_, rfl⟩
 obtain ⟨n, hn⟩ : ∃ n : Int, n = l.length := ⟨_, rfl⟩
 refine Con.of ttOk mixed Tryz.func15 {} .nil 0 (by kernel_rfl) (fun P' E hP hE => ?_)
 have hp0 : 0 <= i0 /\ i0 <= n /\ bigL (l.drop i0.toNat) = r := by
  subst hi0; exact ⟨by omega, by omega, by rw [hr]; rfl⟩
 clear hr
 cbv
 refine LoopTo.by (ι := Int) (fun i => [(6, .v (.int .i64 n)), (7, .v (.int .i64 i))]) (fun i => []) (fun i => 0 <= i /\ i <= n /\ bigL (l.drop i.toNat) = r) (fun i => (n - i).toNat) i0 [] hp0 ?_ ?_
 ·cbv
  subst hE
  and_intros
  all_goals first
   | exact congrArg (fun x => AV.v (Value.int .i64 x)) hn.symm
   | exact congrArg (fun x => Value.int .i64 x) hi0.symm
   | (simp; done)
 ·intro i hi
  have h0 : 0 <= i := hi.1
  have h1 : i <= n := hi.2.1
  have h2 : bigL (l.drop i.toNat) = r := hi.2.2
  clear hi hp0
  cbv
  refine fork.mk ?_ ?_
  ·intro g1
   have hn : n = (l.length : Int) := hn
   have hlt : i < n := by subst hE; simpa [Env.std] using g1
   have hst := bigL_step (l := l) (i := i.toNat) ⟨⟨false, ⟨#[]⟩, ⟨#[]⟩⟩, ⟨false, ⟨#[]⟩, ⟨#[]⟩⟩⟩ (by omega)
   rw [h2] at hst
   have hin : 0 <= i /\ i < (l.length : Int) := ⟨h0, by omega⟩
   refine exVar (l.getD i.toNat ⟨⟨false, ⟨#[]⟩, ⟨#[]⟩⟩, ⟨false, ⟨#[]⟩, ⟨#[]⟩⟩⟩) ?_
   intro p hp
   have hget : Env.std.get Pt l i ⟨⟨false, ⟨#[]⟩, ⟨#[]⟩⟩, ⟨false, ⟨#[]⟩, ⟨#[]⟩⟩⟩ = p := hp.symm
   rw [<- hp] at hst
   have hj : Env.std.ib .add .i64 i 1 = i + 1 := by rw [s_add, w64 (by omega) (by omega)]
   have hnext : bigB p = false -> bigL (l.drop (i + 1).toNat) = r := fun h => by
    rw [h] at hst
    have e : (i + 1).toNat = i.toNat + 1 := by omega
    rw [e]; exact hst.symm
   refine exVar (i + 1) ?_
   intro j ej
   rw [<- ej] at hj hnext
   cbv
   refine ⟨by subst hE; exact hin, ?_⟩
   cbv
   refine fork.mk ?_ ?_
   ·intro k1
    cbv
    subst hE
    have k1 : decide ((Env.std.get Pt l i _).x.num.size > (40 : Int)) = true := k1
    rw [hget] at k1
    simp at k1
    rw [hst, bigB]; simp; omega
   ·intro k1
    cbv
    refine fork.mk ?_ ?_
    ·intro k2
     cbv
     subst hE
     have k2 : decide ((Env.std.get Pt l i _).x.den.size > (40 : Int)) = true := k2
     rw [hget] at k2
     simp at k2
     rw [hst, bigB]; simp; omega
    ·intro k2
     cbv
     refine fork.mk ?_ ?_
     ·intro k3
      cbv
      subst hE
      have k3 : decide ((Env.std.get Pt l i _).y.num.size > (40 : Int)) = true := k3
      rw [hget] at k3
      simp at k3
      rw [hst, bigB]; simp; omega
     ·intro k3
      cbv
      refine fork.mk ?_ ?_
      ·intro k4
       cbv
       subst hE
       have k4 : decide ((Env.std.get Pt l i _).y.den.size > (40 : Int)) = true := k4
       rw [hget] at k4
       simp at k4
       rw [hst, bigB]; simp; omega
      ·intro k4
       have hb : bigB p = false := by
        subst hE
        have k1 : decide ((Env.std.get Pt l i _).x.num.size > (40 : Int)) = false := k1
        have k2 : decide ((Env.std.get Pt l i _).x.den.size > (40 : Int)) = false := k2
        have k3 : decide ((Env.std.get Pt l i _).y.num.size > (40 : Int)) = false := k3
        have k4 : decide ((Env.std.get Pt l i _).y.den.size > (40 : Int)) = false := k4
        rw [hget] at k1 k2 k3 k4
        simp at k1 k2 k3 k4
        rw [bigB]; simp; omega
       have hnext := hnext hb
       have hj0 : 0 <= j := by omega
       have hj1 : j <= n := by omega
       have hmu : (n - j).toNat < (n - i).toNat := by omega
       clear hget hst k1 k2 k3 k4 hb
       cbv
       refine ⟨j, [], ⟨hj0, hj1, hnext⟩, hmu, ?_⟩
       cbv
       subst hE
       and_intros
       all_goals first
        | exact congrArg (fun x => AV.v (Value.int .i64 x)) hj
        | (simp; done)
  ·intro g1
   cbv
   subst hE
   have hn : n = (l.length : Int) := hn
   have hge : ¬ i < n := by simpa [Env.std] using g1
   rw [<- h2, List.drop_eq_nil_of_le (by omega)]
   rfl
end Go.Proofs.YtfdealobplcboaaGreat.Sx

set_option linter.unusedVariables false
set_option linter.unusedSimpArgs false
namespace Go.Proofs.YtfdealobplcboaaGreat.Sx
/-- The value of a row of digits, the greatest one first. -/
def bval : List Int -> Int
 | [] => 0
 | x :: xs => x * 256 ^ xs.length + bval xs
def Ok8 (xs : List Int) : Prop := ∀ x ∈ xs, 0 <= x /\ x < 256
theorem Ok8.nil : Ok8 [] := fun _ h => by cases h
theorem Ok8.cons {x : Int} {xs : List Int} (h0 : 0 <= x) (h1 : x < 256) (h : Ok8 xs) : Ok8 (x :: xs) := by
 intro y hy
 rcases List.mem_cons.1 hy with rfl | hy
 ·exact ⟨h0, h1⟩
 ·exact h y hy
theorem Ok8.tail {x : Int} {xs : List Int} (h : Ok8 (x :: xs)) : Ok8 xs := fun y hy => h y (by simp [hy])
theorem Ok8.head {x : Int} {xs : List Int} (h : Ok8 (x :: xs)) : 0 <= x /\ x < 256 := h x (by simp)
theorem Ok8.get {xs : List Int} (h : Ok8 xs) (i : Nat) : 0 <= xs.getD i 0 /\ xs.getD i 0 < 256 := by
 rw [List.getD_eq_getElem?_getD]
 cases e : xs[i]? with
 | none => simp
 | some x => simp; exact h x (List.mem_of_getElem? e)
theorem Ok8.set {xs : List Int} (h : Ok8 xs) {x : Int} (h0 : 0 <= x) (h1 : x < 256) (i : Nat) : Ok8 (xs.set i x) := by
 intro y hy
 rcases List.mem_or_eq_of_mem_set hy with hy | rfl
 ·exact h y hy
 ·exact ⟨h0, h1⟩
theorem Ok8.drop {xs : List Int} (h : Ok8 xs) (n : Nat) : Ok8 (xs.drop n) := fun y hy => h y (List.mem_of_mem_drop hy)
theorem Ok8.rep (n : Nat) : Ok8 (List.replicate n 0) := fun y hy => by rw [(List.mem_replicate.1 hy).2]; decide
theorem pow256_pos (j : Nat) : (0 : Int) < 256 ^ j := Int.pow_pos (by decide)
theorem bval_nonneg : ∀ {xs : List Int}, Ok8 xs -> 0 <= bval xs
 | [], _ => by simp [bval]
 | x :: xs, h => by
  have h1 := bval_nonneg h.tail
  have h2 := Int.mul_nonneg h.head.1 (Int.le_of_lt (pow256_pos xs.length))
  simp only [bval]; omega
theorem bval_lt : ∀ {xs : List Int}, Ok8 xs -> bval xs < 256 ^ xs.length
 | [], _ => by simp [bval]
 | x :: xs, h => by
  have h1 := bval_lt h.tail
  have h2 := h.head
  have h3 : x * 256 ^ xs.length <= 255 * 256 ^ xs.length := Int.mul_le_mul_of_nonneg_right (by omega) (Int.le_of_lt (pow256_pos _))
  simp only [bval, List.length_cons, Int.pow_succ]
  omega
theorem bval_rep : ∀ n : Nat, bval (List.replicate n 0) = 0
 | 0 => rfl
 | n + 1 => by simp [List.replicate_succ, bval, bval_rep n]
theorem bval_append : ∀ (xs ys : List Int), bval (xs ++ ys) = bval xs * 256 ^ ys.length + bval ys
 | [], ys => by simp [bval]
 | x :: xs, ys => by
  simp only [List.cons_append, bval, bval_append xs ys, List.length_append, Int.pow_add]
  grind
theorem bval_set : ∀ (xs : List Int) (j : Nat) (v : Int), j < xs.length -> bval (xs.set j v) = bval xs + (v - xs.getD j 0) * 256 ^ (xs.length - 1 - j)
 | [], j, v, h => by simp at h
 | x :: xs, 0, v, _ => by
  simp only [List.set_cons_zero, bval, List.length_cons, List.getD_cons_zero, Nat.sub_zero, Nat.add_sub_cancel]
  grind
 | x :: xs, j + 1, v, h => by
  have h' : j < xs.length := by simpa using h
  simp only [List.set_cons_succ, bval, List.length_cons, List.getD_cons_succ, List.length_set, bval_set xs j v h']
  have e : xs.length + 1 - 1 - (j + 1) = xs.length - 1 - j := by omega
  rw [e]
  omega
theorem toU8 {x : Int} (h0 : 0 <= x) (h1 : x < 256) : (UInt8.ofNat x.toNat).toNat = x.toNat := by
 rw [UInt8.toNat_ofNat']
 omega
theorem dv_by8 : ∀ {xs : List Int}, Ok8 xs -> ((dv (by8 xs) : Nat) : Int) = bval xs
 | [], _ => rfl
 | x :: xs, h => by
  have h1 := dv_by8 h.tail
  have h2 := h.head
  show ((dv (UInt8.ofNat x.toNat :: by8 xs) : Nat) : Int) = _
  rw [dv_cons, toU8 h2.1 h2.2]
  have e : (by8 xs).length = xs.length := by simp [by8]
  rw [e, bval, <- h1, Int.natCast_add, Int.natCast_mul, Int.toNat_of_nonneg h2.1, Int.natCast_pow]
  rfl
/-- The digit of weight 256 ^ j. -/
def dig8 (n : Nat) (j : Nat) : Nat := n / 256 ^ j % 256
theorem dig8_lt (n j : Nat) : dig8 n j < 256 := Nat.mod_lt _ (by decide)
theorem mod8_succ (n j : Nat) : n % 256 ^ (j + 1) = n % 256 ^ j + 256 ^ j * dig8 n j := Nat.mod_pow_succ
theorem dig8_zero {n j k : Nat} (h : n < 256 ^ k) (hj : k <= j) : dig8 n j = 0 := by
 unfold dig8
 rw [Nat.div_eq_of_lt (Nat.lt_of_lt_of_le h (Nat.pow_le_pow_right (by decide) hj))]
theorem dig8_at {l : List UInt8} {j : Nat} (h : j < l.length) : (l.getD (l.length - 1 - j) 0).toNat = dig8 (dv l) j := (digit_at h).symm
/-- addMag: j digits of the sum are written. -/
structure RaInv (A B : Nat) (n : Nat) (j : Nat) (c : Int) (o : List Int) : Prop where
 j1 : j <= n
 len : o.length = n
 ok : Ok8 o
 c0 : 0 <= c
 c1 : c <= 1
 v : bval (o.drop (n - j)) + c * ((256 ^ j : Nat) : Int) = ((A % 256 ^ j + B % 256 ^ j : Nat) : Int)
theorem RaInv.zero (A B n : Nat) : RaInv A B n 0 0 (List.replicate n 0) := by
 refine ⟨Nat.zero_le _, by simp, Ok8.rep n, by decide, by decide, ?_⟩
 rw [List.drop_eq_nil_of_le (by simp)]
 simp [bval, Nat.mod_one]
theorem drop_set_at {o : List Int} {n j : Nat} {x : Int} (hl : o.length = n) (hj : j < n) : (o.set (n - (j + 1)) x).drop (n - (j + 1)) = x :: o.drop (n - j) := by
 have e : n - j = n - (j + 1) + 1 := by omega
 rw [List.drop_eq_getElem_cons (by rw [List.length_set]; omega), List.getElem_set_self, List.drop_set, if_pos (by omega), e]
theorem RaInv.step {A B n j : Nat} {c s : Int} {o : List Int} (h : RaInv A B n j c o) (hj : j < n) (hs : s = c + dig8 A j + dig8 B j) : RaInv A B n (j + 1) (s / 256) (o.set (n - (j + 1)) (s % 256)) := by
 have h1 := dig8_lt A j
 have h2 := dig8_lt B j
 have h3 := h.c0
 have h4 := h.c1
 refine ⟨by omega, by rw [List.length_set, h.len], h.ok.set (by omega) (by omega) _, by omega, by omega, ?_⟩
 rw [drop_set_at h.len hj, mod8_succ, mod8_succ, bval]
 have hv := h.v
 have e1 : (o.drop (n - j)).length = j := by rw [List.length_drop, h.len]; omega
 rw [e1]
 have e2 : ((256 ^ (j + 1) : Nat) : Int) = 256 * ((256 ^ j : Nat) : Int) := by rw [Nat.pow_succ]; omega
 have e3 : (256 : Int) ^ j = ((256 ^ j : Nat) : Int) := by rw [Int.natCast_pow]; rfl
 rw [e2, e3]
 generalize ((256 ^ j : Nat) : Int) = p at *
 have e4 : s % 256 + 256 * (s / 256) = s := Int.emod_add_mul_ediv s 256
 have e5 : s % 256 * p + s / 256 * (256 * p) = s * p := by
  rw [<- e4]; grind
 simp only [Int.natCast_add, Int.natCast_mul] at hv ⊢
 have e6 : s * p = c * p + dig8 A j * p + dig8 B j * p := by rw [hs]; grind
 grind
theorem RaInv.last {A B n : Nat} {c : Int} {o : List Int} (h : RaInv A B n n c o) (hA : 256 * A < 256 ^ n) (hB : 256 * B < 256 ^ n) : bval o = ((A + B : Nat) : Int) := by
 have hv := h.v
 rw [Nat.sub_self, List.drop_zero, Nat.mod_eq_of_lt (by omega), Nat.mod_eq_of_lt (by omega)] at hv
 have h0 := h.c0
 have h1 := h.c1
 have hb := bval_nonneg h.ok
 have : c = 0 := by
  refine Decidable.byContradiction fun hc => ?_
  have : c = 1 := by omega
  rw [this, Int.one_mul] at hv
  omega
 rw [this, Int.zero_mul, Int.add_zero] at hv
 exact hv
/-- subMag: j digits of the difference are written. -/
structure RdInv (A B : Nat) (n : Nat) (j : Nat) (c : Int) (o : List Int) : Prop where
 j1 : j <= n
 len : o.length = n
 ok : Ok8 o
 c0 : 0 <= c
 c1 : c <= 1
 v : bval (o.drop (n - j)) = ((A % 256 ^ j : Nat) : Int) - ((B % 256 ^ j : Nat) : Int) + c * ((256 ^ j : Nat) : Int)
theorem RdInv.zero (A B n : Nat) : RdInv A B n 0 0 (List.replicate n 0) := by
 refine ⟨Nat.zero_le _, by simp, Ok8.rep n, by decide, by decide, ?_⟩
 rw [List.drop_eq_nil_of_le (by simp)]
 simp [bval, Nat.mod_one]
theorem RdInv.step {A B n j : Nat} {c c' s d : Int} {o : List Int} (h : RdInv A B n j c o) (hj : j < n) (hs : s = dig8 A j - c - dig8 B j) (hd : d = if s < 0 then s + 256 else s) (hc : c' = if s < 0 then 1 else 0) : RdInv A B n (j + 1) c' (o.set (n - (j + 1)) d) := by
 have h1 := dig8_lt A j
 have h2 := dig8_lt B j
 have h3 := h.c0
 have h4 := h.c1
 have e0 : d = s + 256 * c' := by rw [hd, hc]; split <;> omega
 refine ⟨by omega, by rw [List.length_set, h.len], h.ok.set (by rw [hd]; split <;> omega) (by rw [hd]; split <;> omega) _, by rw [hc]; split <;> omega, by rw [hc]; split <;> omega, ?_⟩
 rw [drop_set_at h.len hj, mod8_succ, mod8_succ, bval]
 have hv := h.v
 have e1 : (o.drop (n - j)).length = j := by rw [List.length_drop, h.len]; omega
 rw [e1]
 have e2 : ((256 ^ (j + 1) : Nat) : Int) = 256 * ((256 ^ j : Nat) : Int) := by rw [Nat.pow_succ]; omega
 have e3 : (256 : Int) ^ j = ((256 ^ j : Nat) : Int) := by rw [Int.natCast_pow]; rfl
 rw [e2, e3, e0, hs]
 generalize ((256 ^ j : Nat) : Int) = p at *
 simp only [Int.natCast_add, Int.natCast_mul] at hv ⊢
 grind
theorem RdInv.last {A B n : Nat} {c : Int} {o : List Int} (h : RdInv A B n n c o) (hA : A < 256 ^ n) (hB : B <= A) : bval o = ((A - B : Nat) : Int) := by
 have hv := h.v
 rw [Nat.sub_self, List.drop_zero, Nat.mod_eq_of_lt (by omega), Nat.mod_eq_of_lt (by omega)] at hv
 have h0 := h.c0
 have h1 := h.c1
 have hb := bval_lt h.ok
 rw [h.len] at hb
 have e3 : (256 : Int) ^ n = ((256 ^ n : Nat) : Int) := by rw [Int.natCast_pow]; rfl
 rw [e3] at hb
 have : c = 0 := by
  refine Decidable.byContradiction fun hc => ?_
  have : c = 1 := by omega
  rw [this, Int.one_mul] at hv
  omega
 rw [this, Int.zero_mul, Int.add_zero] at hv
 omega
theorem dv_drop {l : List UInt8} {i : Nat} (h : i < l.length) : dv (l.drop i) = (l.getD i 0).toNat * 256 ^ (l.length - 1 - i) + dv (l.drop (i + 1)) := by
 have e : l.drop i = l.getD i 0 :: l.drop (i + 1) := by
  rw [List.drop_eq_getElem_cons h, List.getD_eq_getElem?_getD, List.getElem?_eq_getElem h]; rfl
 rw [e, dv_cons, List.length_drop]
 congr 3
 omega
/-- mulMag: the digits of A behind i are multiplied. -/
structure RoInv (A B : List UInt8) (i : Int) (o : List Int) : Prop where
 i0 : -1 <= i
 i1 : i < A.length
 len : o.length = A.length + B.length
 ok : Ok8 o
 z : ∀ p : Nat, (p : Int) <= i -> o.getD p 0 = 0
 v : bval o = ((dv (A.drop (i + 1).toNat) * dv B : Nat) : Int)
/-- .. and digit i by the digits of B behind k. -/
structure RqInv (A B : List UInt8) (i k c : Int) (o : List Int) : Prop where
 i0 : 0 <= i
 i1 : i < A.length
 k0 : -1 <= k
 k1 : k < B.length
 len : o.length = A.length + B.length
 ok : Ok8 o
 c0 : 0 <= c
 c1 : c < 256
 z : ∀ p : Nat, (p : Int) <= i -> o.getD p 0 = 0
 v : bval o + c * ((256 ^ (A.length + B.length - 1 - (i + k + 1).toNat) : Nat) : Int) = ((dv (A.drop (i + 1).toNat) * dv B + (A.getD i.toNat 0).toNat * dv (B.drop (k + 1).toNat) * 256 ^ (A.length - 1 - i.toNat) : Nat) : Int)
theorem RoInv.zero (A B : List UInt8) : RoInv A B ((A.length : Int) - 1) (List.replicate (A.length + B.length) 0) := by
 refine ⟨by omega, by omega, by simp, Ok8.rep _, fun p _ => rep_getD _ _, ?_⟩
 rw [bval_rep, List.drop_eq_nil_of_le (by omega)]
 simp [dv]
theorem RqInv.zero {A B : List UInt8} {i : Int} {o : List Int} (h : RoInv A B i o) (hi : 0 <= i) : RqInv A B i ((B.length : Int) - 1) 0 o := by
 refine ⟨hi, h.i1, by omega, by omega, h.len, h.ok, by decide, by decide, h.z, ?_⟩
 have e : B.drop ((B.length : Int) - 1 + 1).toNat = [] := List.drop_eq_nil_of_le (by omega)
 rw [h.v, e]
 simp [dv]
theorem RqInv.step {A B : List UInt8} {i k c s : Int} {o : List Int} (h : RqInv A B i k c o) (hk : 0 <= k) (hs : s = c + (o.getD (i + k + 1).toNat 0 + (A.getD i.toNat 0).toNat * (B.getD k.toNat 0).toNat)) :
  0 <= s /\ s < 65536 /\ RqInv A B i (k - 1) (s / 256) (o.set (i + k + 1).toNat (s % 256)) := by
 have h1 := h.c0
 have h2 := h.c1
 have h3 := h.ok.get (i + k + 1).toNat
 have h4 : (A.getD i.toNat 0).toNat < 256 := UInt8.toNat_lt _
 have h5 : (B.getD k.toNat 0).toNat < 256 := UInt8.toNat_lt _
 have h6 : ((A.getD i.toNat 0).toNat : Int) * ((B.getD k.toNat 0).toNat : Int) <= 255 * 255 := by
  have := Nat.mul_le_mul (show (A.getD i.toNat 0).toNat <= 255 by omega) (show (B.getD k.toNat 0).toNat <= 255 by omega)
  omega
 have h7 : (0 : Int) <= ((A.getD i.toNat 0).toNat : Int) * ((B.getD k.toNat 0).toNat : Int) := by
  have := Nat.zero_le ((A.getD i.toNat 0).toNat * (B.getD k.toNat 0).toNat)
  omega
 have q1 := h.i0
 have q2 := h.i1
 have q3 := h.k1
 have q4 := h.len
 have s0 : 0 <= s := by omega
 have s1 : s < 65536 := by omega
 refine ⟨s0, s1, h.i0, h.i1, by omega, by omega, by rw [List.length_set]; exact h.len, h.ok.set (by omega) (by omega) _, by omega, by omega, ?_, ?_⟩
 ·intro p hp
  rw [getD_set (by omega), if_neg (by omega)]
  exact h.z p hp
 ·have hv := h.v
  rw [bval_set _ _ _ (by omega), q4]
  have e1 : (i + (k - 1) + 1).toNat = (i + k).toNat := by congr 1; omega
  have e2 : (k - 1 + 1).toNat = k.toNat := by congr 1; omega
  have e3 : A.length + B.length - 1 - (i + k).toNat = A.length + B.length - 1 - (i + k + 1).toNat + 1 := by omega
  have e4 : (k + 1).toNat = k.toNat + 1 := by omega
  have e5 : B.length - 1 - k.toNat + (A.length - 1 - i.toNat) = A.length + B.length - 1 - (i + k + 1).toNat := by omega
  rw [e1, e2, e3, dv_drop (by omega : k.toNat < B.length)]
  rw [e4] at hv
  have e6 : (A.getD i.toNat 0).toNat * ((B.getD k.toNat 0).toNat * 256 ^ (B.length - 1 - k.toNat) + dv (B.drop (k.toNat + 1))) * 256 ^ (A.length - 1 - i.toNat) = (A.getD i.toNat 0).toNat * (B.getD k.toNat 0).toNat * 256 ^ (A.length + B.length - 1 - (i + k + 1).toNat) + (A.getD i.toNat 0).toNat * dv (B.drop (k.toNat + 1)) * 256 ^ (A.length - 1 - i.toNat) := by
   rw [<- e5, Nat.pow_add]; grind
  rw [e6]
  have e7 : (256 : Int) ^ (A.length + B.length - 1 - (i + k + 1).toNat) = ((256 ^ (A.length + B.length - 1 - (i + k + 1).toNat) : Nat) : Int) := by rw [Int.natCast_pow]; rfl
  rw [e7, Nat.pow_succ]
  generalize 256 ^ (A.length + B.length - 1 - (i + k + 1).toNat) = p at *
  generalize (A.getD i.toNat 0).toNat = a at *
  generalize (B.getD k.toNat 0).toNat = b at *
  generalize a * dv (B.drop (k.toNat + 1)) * 256 ^ (A.length - 1 - i.toNat) = w at *
  generalize dv (A.drop (i + 1).toNat) * dv B = v at *
  generalize o.getD (i + k + 1).toNat 0 = x at *
  have e8 : s % 256 + 256 * (s / 256) = s := Int.emod_add_mul_ediv s 256
  have e9 : s % 256 * (p : Int) + s / 256 * ((p : Int) * 256) = s * p := by
   have h9 : (s % 256 + 256 * (s / 256)) * (p : Int) = s * p := by rw [e8]
   grind
  simp only [Int.natCast_add, Int.natCast_mul] at hv hs ⊢
  have e10 : s * (p : Int) = c * p + x * p + a * b * p := by rw [hs]; grind
  grind
theorem RqInv.last {A B : List UInt8} {i c : Int} {o : List Int} (h : RqInv A B i (-1) c o) : RoInv A B (i - 1) (o.set i.toNat (o.getD i.toNat 0 + c)) := by
 have q1 := h.i0
 have q2 := h.i1
 have q4 := h.len
 have hz := h.z i.toNat (by omega)
 rw [hz, Int.zero_add]
 refine ⟨by omega, by omega, by rw [List.length_set]; exact h.len, h.ok.set h.c0 h.c1 _, ?_, ?_⟩
 ·intro p hp
  rw [getD_set (by omega), if_neg (by omega)]
  exact h.z p (by omega)
 ·have hv := h.v
  rw [bval_set _ _ _ (by omega), q4, hz]
  have e1 : (i + -1 + 1).toNat = i.toNat := by congr 1; omega
  have e2 : (i - 1 + 1).toNat = i.toNat := by congr 1; omega
  have e3 : ((-1 : Int) + 1).toNat = 0 := rfl
  have e4 : (i + 1).toNat = i.toNat + 1 := by omega
  rw [e1, e3, List.drop_zero, e4] at hv
  rw [e2, dv_drop (by omega : i.toNat < A.length)]
  have e7 : (256 : Int) ^ (A.length + B.length - 1 - i.toNat) = ((256 ^ (A.length + B.length - 1 - i.toNat) : Nat) : Int) := by rw [Int.natCast_pow]; rfl
  rw [e7]
  simp only [Int.natCast_add, Int.natCast_mul] at hv ⊢
  grind
theorem RoInv.last {A B : List UInt8} {o : List Int} (h : RoInv A B (-1) o) : bval o = ((dv A * dv B : Nat) : Int) := h.v
end Go.Proofs.YtfdealobplcboaaGreat.Sx

set_option linter.unusedVariables false
set_option linter.unusedSimpArgs false
set_option maxRecDepth 100000
set_option maxHeartbeats 8000000
namespace Go.Proofs.YtfdealobplcboaaGreat.Sx
theorem rtrim_con (s : ByteArray) (hb : s.size <= 1099511627776) : Con Tryz.prog 245 [.v (.string s)] (.v (.string (mg (bv s)))) := by
 refine Con.of ttOk mixed Tryz.func245 {} .nil 0 (by kernel_rfl) (fun P' E hP hE => ?_)
 obtain ⟨m, hm⟩ : ∃ m, m = mg (bv s) := ⟨_, rfl⟩
 rw [<- hm]
 cbv
 refine LoopTo.by (ι := ByteArray) (fun t => [(0, .v (.string t))]) (fun _ => []) (fun t => bv t = bv s /\ t.size <= s.size) (fun t => t.size) s [] ⟨rfl, Nat.le_refl _⟩ ?_ ?_
 ·cbv
  simp
 ·intro t ht
  obtain ⟨u, hu⟩ : ∃ u, u = t.extract 1 t.size := ⟨_, rfl⟩
  cbv
  refine ⟨fun h1 => ?_, fun h1 => ?_⟩
  ·have hne : t.size ≠ 0 := by subst hE; have h : Env.std.ic .gtr (Env.std.sz t) 0 = _ := h1; simp at h; omega
   cbv
   refine ⟨?_, ?_⟩
   ·subst hE; simp; omega
   cbv
   refine ⟨fun h2 => ?_, fun h2 => ?_⟩
   ·cbv
    refine ⟨?_, ?_⟩
    ·subst hE; simp; omega
    cbv
    have hu1 : dg u = (dg t).drop 1 := by rw [hu, dg_extract, List.take_of_length_le (by rw [<- dg_size]; exact Nat.le_refl _)]
    have hu2 : u.size = t.size - 1 := by rw [dg_size, hu1, List.length_drop, <- dg_size]
    have hd : (dg t).getD 0 0 = 0 := by
     subst hE
     have h : Env.std.ic .eql (Env.std.sa t 0) 0 = true := h2
     rw [s_eql, s_sa, dg_get] at h
     have h : ((dg t).getD 0 0).toNat = 0 := by simpa using h
     exact UInt8.toNat_inj.1 h
    refine ⟨u, [], ⟨?_, by omega⟩, by omega, ?_⟩
    ·rw [<- ht.1]
     show dv (dg u) = dv (dg t)
     rw [hu1]
     have : 0 < (dg t).length := by rw [<- dg_size]; omega
     cases e : dg t with
     | nil => rfl
     | cons d l => rw [e] at hd; simp at hd; subst hd; rw [dv_cons0]; rfl
    ·cbv
     subst hE
     simp [hu]
   ·cbv
    have hd : ∀ d l, dg t = d :: l -> d ≠ 0 := by
     rintro d l h rfl
     subst hE
     have h3 : Env.std.ic .eql (Env.std.sa t 0) 0 = false := h2
     rw [s_eql, s_sa, dg_get] at h3
     simp [h] at h3
    rw [hm, <- ht.1]
    congr 1
    refine dg_ext ?_
    rw [dg_mg]
    exact (mgl_dv _ _ rfl hd).symm
  ·cbv
   have hz : t.size = 0 := by subst hE; have h := of_decide_eq_false (show decide ((t.size : Int) > 0) = false from h1); omega
   have : t = ⟨#[]⟩ := ByteArray.ext (Array.eq_empty_of_size_eq_zero hz)
   rw [hm, <- ht.1, this]
   congr 1
   refine dg_ext ?_
   rw [dg_mg]
   exact mgl_zero.symm
theorem rsmall_con (s : ByteArray) (h : s.size <= 7) : Con Tryz.prog 246 [.v (.string s)] (.v (.int .i64 (bv s : Nat))) := by
 obtain ⟨r, hr⟩ : ∃ r : Int, r = (bv s : Nat) := ⟨_, rfl⟩
 rw [<- hr]
 refine Con.of ttOk mixed Tryz.func246 {} .nil 0 (by kernel_rfl) (fun P' E hP hE => ?_)
 obtain ⟨i0, hi0⟩ : ∃ i : Int, i = 0 := ⟨_, rfl⟩
 have hz : WInv s i0 i0 := by subst hi0; exact ⟨by omega, by omega, rfl⟩
 have hfin : ∀ i n : Int, WInv s i n -> ¬ i < s.size -> n = r := by
  intro i n q hi
  have q1 := q.i1
  have q0 := q.i0
  rw [q.v, List.take_of_length_le (by rw [<- dg_size]; omega), hr]; rfl
 cbv
 refine LoopTo.by (ι := Int × Int) (fun x => [(4, .v (.int .i64 x.1)), (3, .v (.int .i64 x.2))]) (fun x => []) (fun x => WInv s x.1 x.2) (fun x => ((s.size : Int) - x.1).toNat) (i0, i0) [] hz ?_ ?_
 ·cbv
  subst hE
  and_intros
  all_goals first
   | exact congrArg (Value.int _) hi0.symm
   | (simp; done)
   | (trace_state; fail)
 ·rintro ⟨i, n⟩ hi
  have hi : WInv s i n := hi
  have hi00 := hi.i0
  cbv
  refine fork.mk ?_ ?_
  ·intro h2
   have hlt : i < s.size := by
    subst hE
    have h : Env.std.ic .lss i (Env.std.sz s) = true := h2
    simpa using h
   have q := hi.step h hlt
   refine exVar (n * 256 + (((dg s).getD i.toNat 0).toNat : Int)) ?_
   intro n' hn'
   refine exVar (i + 1) ?_
   intro i' hi'
   have q1 : Env.std.ib .or .i64 (Env.std.ib .shl .i64 n 8) (Env.std.cv .i64 (Env.std.sa s i)) = n' := by rw [hn']; exact q.1
   have q2 : WInv s i' n' := by rw [hn', hi']; exact q.2
   have hii : Env.std.ib .add .i64 i 1 = i' := by rw [s_add, w64 (by omega) (by omega), hi']
   have hin : Env.std.inb i (Env.std.sz s) := by rw [s_inb, s_sz]; exact ⟨hi00, hlt⟩
   have hmu : ((s.size : Int) - i').toNat < ((s.size : Int) - i).toNat := by omega
   clear hn' q
   cbv
   refine ⟨by subst hE; simp, ?_⟩
   cbv
   refine ⟨by subst hE; exact hin, ?_⟩
   cbv
   refine ⟨(i', n'), [], q2, hmu, ?_⟩
   cbv
   subst hE
   and_intros
   all_goals first
    | exact congrArg (fun x => AV.v (Value.int .i64 x)) q1
    | exact congrArg (fun x => AV.v (Value.int .i64 x)) hii
    | (simp; done)
    | (trace_state; fail)
  ·intro h2
   have hlt : ¬ i < s.size := by
    subst hE
    have h : Env.std.ic .lss i (Env.std.sz s) = false := h2
    simpa using h
   have q := hfin i n hi hlt
   cbv
   exact congrArg (Value.int .i64) q
end Go.Proofs.YtfdealobplcboaaGreat.Sx

set_option linter.unusedVariables false
set_option linter.unusedSimpArgs false
set_option maxRecDepth 100000
set_option maxHeartbeats 8000000
namespace Go.Proofs.YtfdealobplcboaaGreat.Sx
theorem rvalue_con (neg : Bool) (mag : ByteArray) (h : mag.size <= 7) : Con Tryz.prog 219 [.v (zR neg mag)] (.v (.int .i64 (zval neg mag))) := by
 have hs := rsmall_con mag h
 have hb := zval_small false mag h
 obtain ⟨v, hv⟩ : ∃ v : Int, v = (bv mag : Nat) := ⟨_, rfl⟩
 have hb : -72057594037927936 < v /\ v < 72057594037927936 := by rw [hv]; exact hb
 rw [<- hv] at hs
 obtain ⟨r, hr⟩ : ∃ r, r = zval neg mag := ⟨_, rfl⟩
 rw [<- hr]
 have hneg : neg = true -> r = -v := by intro e; rw [hr, e, hv]; rfl
 have hpos : neg = false -> r = v := by intro e; rw [hr, e, hv]; rfl
 clear hr
 unfold zR
 refine Con.of ttOk mixed Tryz.func219 {} .nil 0 (by kernel_rfl) (fun P' E hP hE => ?_)
 cbv
 refine fork.mk ?_ ?_
 ·intro g
  cbv
  refine CallTo.w hP hE hs ⟨rfl, trivial⟩ ?_
  cbv
  subst hE
  have : Env.std.un .neg .i64 v = r := by rw [s_neg, w64 (by omega) (by omega), hneg g]; omega
  exact congrArg (Value.int .i64) this
 ·intro g
  cbv
  refine CallTo.w hP hE hs ⟨rfl, trivial⟩ ?_
  cbv
  exact congrArg (Value.int .i64) (hpos g).symm
theorem mg_one8 {n : Nat} (h0 : n ≠ 0) (h : n < 256) : mgl n = [UInt8.ofNat n] := by
 rw [mgl_pos h0, Nat.div_eq_of_lt h, mgl_zero, Nat.mod_eq_of_lt h]; rfl
theorem rmag_con (N : Nat) (h : N < 9223372036854775808) : Con Tryz.prog 224 [.v (.int .i64 N)] (.v (.string (mg N))) := by
 obtain ⟨n0, hn0⟩ : ∃ x : Int, x = N := ⟨_, rfl⟩
 obtain ⟨o0, ho0⟩ : ∃ x : List Int, x = List.replicate 8 0 := ⟨_, rfl⟩
 obtain ⟨i0, hi0⟩ : ∃ x : Int, x = 8 := ⟨_, rfl⟩
 obtain ⟨s, hs⟩ : ∃ s, s = mg N := ⟨_, rfl⟩
 rw [<- hn0, <- hs]
 have hz : XInv N n0 i0 o0 := by
  have e8 : i0.toNat = 8 := by omega
  have h8 : (256 : Nat) ^ 8 = 18446744073709551616 := by decide
  refine ⟨by omega, by omega, by omega, ?_, by rw [ho0]; simp, ?_⟩
  ·rw [e8, h8]; omega
  ·rw [e8, List.drop_eq_nil_of_le (by rw [ho0]; simp), hn0, Int.toNat_natCast]; simp [by8]
 have hnil : n0 = 0 -> s = ⟨⟨[]⟩⟩ := by
  intro e
  rw [hs, show N = 0 by omega]; exact dg_ext mgl_zero
 have hone : ¬ n0 = 0 -> n0 < 256 -> Env.std.b2s Int (fun x => [.int .u8 x]) [Env.std.cv .u8 n0] = s := by
  intro e1 e2
  refine dg_ext ?_
  rw [hs, dg_mg, mg_one8 (by omega) (by omega), s_cv, IntKind.wrap_u8, show n0 % 256 = (N : Int) by omega]
  rfl
 refine Con.of ttOk mixed Tryz.func224 {} .nil 0 (by kernel_rfl) (fun P' E hP hE => ?_)
 cbv
 refine fork.mk ?_ ?_
 ·intro g1
  have g1' : n0 < 256 := by
   subst hE
   have h : Env.std.ic .lss n0 256 = true := g1
   simpa using h
  cbv
  refine fork.mk ?_ ?_
  ·intro g2
   have g2' : n0 = 0 := by
    subst hE
    have h : Env.std.ic .eql n0 0 = true := g2
    simpa using h
   cbv
   exact congrArg Value.string (hnil g2').symm
  ·intro g2
   have g2' : ¬ n0 = 0 := by
    subst hE
    have h : Env.std.ic .eql n0 0 = false := g2
    simpa using h
   have q := hone g2' g1'
   cbv
   subst hE
   exact congrArg Value.string q
 ·intro g1
  cbv
  refine ⟨trivial, ?_⟩
  cbv
  refine LoopTo.by (ι := Int × Int × List Int) (fun x => [(0, .v (.int .i64 x.1)), (4, .v (.int .i64 x.2.1))]) (fun x => [(1, .row true 187 (cInt .u8) x.2.2)]) (fun x => XInv N x.1 x.2.1 x.2.2) (fun x => x.1.toNat) (n0, i0, o0) [] hz ?_ ?_
  ·cbv
   subst hE
   and_intros
   all_goals first
    | exact congrArg (Value.int _) hi0.symm
    | exact Sm.of ho0.symm
    | (simp; done)
    | (trace_state; fail)
  ·rintro ⟨n, i, o⟩ hi
   have hi : XInv N n i o := hi
   cbv
   refine fork.mk ?_ ?_
   ·intro h1
    have h1' : 0 < n := by
     subst hE
     have h : Env.std.ic .gtr n 0 = true := h1
     simpa using h
    have q := hi.step h1'
    have b1 := hi.i1
    have b2 := hi.n0
    have b3 := hi.len
    refine exVar (i - 1) ?_
    intro i' hi'
    refine exVar (n / 256) ?_
    intro n' hn'
    refine exVar (o.set i'.toNat (n % 256)) ?_
    intro o' ho'
    have hQ : XInv N n' i' o' := by rw [ho', hn', hi']; exact q.2
    have hsub : Env.std.ib .sub .i64 i 1 = i' := by rw [s_sub, w64 (by omega) (by omega), hi']
    have hin : Env.std.inb (Env.std.ib .sub .i64 i 1) (Env.std.nof 8) /\ Env.std.len Int o = Env.std.nof 8 := by
     rw [hsub, s_nof, s_inb, s_len, b3]
     exact ⟨⟨by rw [hi']; exact q.1, by show i' < 8; omega⟩, rfl⟩
    have hset : Env.std.set Int o (Env.std.ib .sub .i64 i 1) (Env.std.cv .u8 n) = o' := by
     rw [hsub, s_set, s_cv, IntKind.wrap_u8, ho']
    have hshr : Env.std.ib .shr .i64 n 8 = n' := by
     rw [hn']; exact Int.fdiv_eq_ediv_of_nonneg _ (by decide)
    have hmu : n'.toNat < n.toNat := by omega
    clear q ho'
    cbv
    refine ⟨by subst hE; exact hin, ?_⟩
    cbv
    refine ⟨by subst hE; simp, ?_⟩
    cbv
    refine ⟨(n', i', o'), [], hQ, hmu, ?_⟩
    cbv
    subst hE
    and_intros
    all_goals first
     | exact Sm.of hset
     | exact congrArg (fun x => AV.v (Value.int .i64 x)) hsub
     | exact congrArg (fun x => AV.v (Value.int .i64 x)) hshr
     | (simp; done)
     | (trace_state; fail)
   ·intro h1
    have h1' : ¬ 0 < n := by
     subst hE
     have h : Env.std.ic .gtr n 0 = false := h1
     simpa using h
    have b0 := hi.i0
    have b1 := hi.i1
    have b2 := hi.n0
    have b3 := hi.len
    have b4 := hi.v
    have hr : Env.std.rng i (Env.std.nof 8) (Env.std.nof 8) /\ Env.std.len Int o = Env.std.nof 8 := by
     rw [s_nof, s_rng, s_len, b3]
     exact ⟨⟨b0, b1, Int.le_refl _⟩, rfl⟩
    cbv
    refine ⟨by subst hE; exact hr, ?_⟩
    have hstr : Env.std.b2s Int (fun x => [.int .u8 x]) (Env.std.wnd Int o i (Env.std.sb (Env.std.nof 8) i)) = s := by
     have e0 : n.toNat = 0 := by omega
     rw [e0, mgl_zero, List.nil_append] at b4
     have e1 : (((8 : Nat) : Int) - i).toNat = 8 - i.toNat := by omega
     rw [s_wnd, s_sb, s_nof, e1, List.take_of_length_le (by rw [List.length_drop, b3]; exact Nat.le_refl _)]
     refine dg_ext ?_
     rw [hs, dg_mg, b4]
     show (((o.drop i.toNat).flatMap fun x => [Value.int .u8 x]).map byteOf).toArray.toList = by8 (o.drop i.toNat)
     exact flat8 _
    cbv
    refine ⟨fun y => ⟨y, rfl⟩, ?_⟩
    cbv
    subst hE
    exact congrArg Value.string hstr
/-- The order of rows of digits of one length. -/
theorem dv_lt_head {a b : UInt8} {l m : List UInt8} (h : a < b) (hl : l.length = m.length) : dv (a :: l) < dv (b :: m) := by
 have h1 := dv_lt l
 rw [dv_cons, dv_cons, <- hl]
 have h2 : a.toNat + 1 <= b.toNat := UInt8.lt_iff_toNat_lt.1 h
 have h3 : (a.toNat + 1) * 256 ^ l.length <= b.toNat * 256 ^ l.length := Nat.mul_le_mul_right _ h2
 rw [Nat.add_mul, Nat.one_mul] at h3
 omega
theorem less_dv : ∀ {l m : List UInt8}, l.length = m.length -> Op.bytesLess l m = decide (dv l < dv m)
 | [], [], _ => by simp [Op.bytesLess]
 | a :: l, b :: m, h => by
  have hl : l.length = m.length := by simpa using h
  rw [Op.bytesLess]
  have ih := less_dv hl
  by_cases c1 : a < b
  ·have := dv_lt_head c1 hl
   simp [c1, this]
  ·by_cases c2 : b < a
   ·have := dv_lt_head c2 hl.symm
    have c3 : ¬ a = b := by rintro rfl; exact c1 c2
    have : ¬ dv (a :: l) < dv (b :: m) := by omega
    simp [c1, c3, this]
   ·have h1 : ¬ a.toNat < b.toNat := fun h => c1 (UInt8.lt_iff_toNat_lt.2 h)
    have h2 : ¬ b.toNat < a.toNat := fun h => c2 (UInt8.lt_iff_toNat_lt.2 h)
    have c3 : a = b := UInt8.toNat_inj.1 (by omega)
    subst c3
    rw [ih, dv_cons, dv_cons, hl]
    simp
 | [], _ :: _, h => by simp at h
 | _ :: _, [], h => by simp at h
theorem cmpM_con (A B : Nat) (ha : (mg A).size <= 1099511627776) (hb : (mg B).size <= 1099511627776) : Con Tryz.prog 218 [.v (.string (mg A)), .v (.string (mg B))] (.v (.int .i64 (cmpI A B))) := by
 obtain ⟨r, hr⟩ : ∃ r, r = cmpI A B := ⟨_, rfl⟩
 rw [<- hr]
 have r1 : A < B -> r = -1 := fun h => by rw [hr, cmpI, if_pos (by omega)]
 have r2 : B < A -> r = 1 := fun h => by rw [hr, cmpI, if_neg (by omega), if_pos (by omega)]
 have r3 : A = B -> r = 0 := fun h => by rw [hr, cmpI, if_neg (by omega), if_neg (by omega)]
 clear hr
 obtain ⟨a, hav⟩ : ∃ a, a = mg A := ⟨_, rfl⟩
 obtain ⟨b, hbv⟩ : ∃ b, b = mg B := ⟨_, rfl⟩
 rw [<- hav, <- hbv]
 have hda : dv (dg a) = A := by rw [hav]; exact bv_mg A
 have hdb : dv (dg b) = B := by rw [hbv]; exact bv_mg B
 have hlen : ∀ {A B : Nat} {a b : ByteArray}, a = mg A -> b = mg B -> a.size < b.size -> A < B := by
  intro A B a b ha hb hlt
  have h1 := mg_size_le (n := B) (k := a.size)
  refine Decidable.byContradiction fun c => ?_
  have h2 : B < 256 ^ a.size := by
   have h3 := dv_lt (dg a)
   have h4 : dv (dg a) = A := by rw [ha]; exact bv_mg A
   rw [h4, <- dg_size] at h3
   omega
  have := h1 h2
  rw [<- hb] at this
  omega
 refine Con.of ttOk mixed Tryz.func218 {} .nil 0 (by kernel_rfl) (fun P' E hP hE => ?_)
 cbv
 refine fork.mk ?_ ?_
 ·intro g1
  have g1' : ¬ a.size = b.size := by
   subst hE
   have h : Env.std.ic .neq (Env.std.sz a) (Env.std.sz b) = true := g1
   simp at h
   omega
  cbv
  refine fork.mk ?_ ?_
  ·intro g2
   have g2' : a.size < b.size := by
    subst hE
    have h := of_decide_eq_true (show decide ((a.size : Int) < b.size) = true from g2)
    omega
   have h9 := hlen hav hbv g2'
   cbv
   rw [r1 h9]
  ·intro g2
   have g2' : ¬ a.size < b.size := by
    subst hE
    have h := of_decide_eq_false (show decide ((a.size : Int) < b.size) = false from g2)
    omega
   have h9 := hlen hbv hav (by omega)
   cbv
   rw [r2 h9]
 ·intro g1
  have g1' : a.size = b.size := by
   subst hE
   have h : Env.std.ic .neq (Env.std.sz a) (Env.std.sz b) = false := g1
   simp at h
   omega
  have hl : Env.std.sl a b = decide (A < B) := by
   have : Op.bytesLess (dg a) (dg b) = decide (dv (dg a) < dv (dg b)) := less_dv (by rw [<- dg_size, <- dg_size]; exact g1')
   rw [hda, hdb] at this
   rw [<- this]
   show Op.bytesLess a.toList b.toList = _
   rw [ByteArray.toList_eq, ByteArray.toList_eq]; rfl
  have hg : Env.std.sg a b = decide (¬ A < B /\ ¬ A = B) := by
   have e2 : Env.std.sg a b = !(Env.std.sl a b || Env.std.sq a b) := rfl
   have e3 : (a = b) = (A = B) := by
    rw [hav, hbv]
    refine propext ⟨fun h => ?_, fun h => by rw [h]⟩
    have := congrArg bv h
    rwa [bv_mg, bv_mg] at this
   rw [e2, hl, sq_iff]
   simp only [e3]
   rw [Bool.eq_iff_iff]; simp
  cbv
  refine fork.mk ?_ ?_
  ·intro g2
   have g2' : A < B := by
    subst hE
    have h : Env.std.sl a b = true := g2
    rw [hl] at h; simpa using h
   cbv
   rw [r1 g2']
  ·intro g2
   have g2' : ¬ A < B := by
    subst hE
    have h : Env.std.sl a b = false := g2
    rw [hl] at h; simpa using h
   cbv
   refine fork.mk ?_ ?_
   ·intro g3
    have g3' : ¬ A < B /\ ¬ A = B := by
     subst hE
     have h : Env.std.sg a b = true := g3
     rw [hg] at h; simpa using h
    cbv
    rw [r2 (by omega)]
   ·intro g3
    have g3' : ¬ (¬ A < B /\ ¬ A = B) := by
     subst hE
     have h : Env.std.sg a b = false := g3
     rw [hg] at h; exact of_decide_eq_false h
    cbv
    rw [r3 (by omega)]
end Go.Proofs.YtfdealobplcboaaGreat.Sx

set_option linter.unusedVariables false
set_option linter.unusedSimpArgs false
set_option maxRecDepth 100000
set_option maxHeartbeats 8000000
namespace Go.Proofs.YtfdealobplcboaaGreat.Sx
theorem mg_nil {n : Nat} : mg n = ⟨⟨[]⟩⟩ ↔ n = 0 := by
 constructor
 ·intro h
  have := congrArg bv h
  rwa [bv_mg] at this
 ·intro h; subst h; exact dg_ext mgl_zero
theorem rcanon_con (neg : Bool) (mag : ByteArray) (h : mag.size <= 1099511627776) : Con Tryz.prog 217 [.v (zR neg mag)] (.v (zV (zval neg mag))) := by
 have ht := rtrim_con mag h
 obtain ⟨m, hm⟩ : ∃ m, m = mg (bv mag) := ⟨_, rfl⟩
 rw [<- hm] at ht
 have hab := zval_abs neg mag
 have hA : ∀ d l, dg mag = d :: l -> d ≠ 0 -> zV (zval neg mag) = .agg #[.bool neg, .string mag] := by
  intro d l hd h0
  have e1 : mag = mg (bv mag) := dg_ext (by
   rw [dg_mg]
   exact (mgl_dv _ _ rfl (fun d' l' h' => by rw [hd] at h'; injection h' with h1 h2; rw [<- h1]; exact h0)).symm)
  have e2 : 0 < bv mag := by
   show 0 < dv (dg mag)
   rw [hd, dv_cons]
   have : d.toNat ≠ 0 := fun e => h0 (UInt8.toNat_inj.1 (by simpa using e))
   have := Nat.mul_pos (show 0 < d.toNat by omega) (show 0 < 256 ^ l.length from Nat.pow_pos (by decide))
   omega
  unfold zV zR
  rw [hab, <- e1]
  congr 3
  unfold zval
  cases neg <;> simp <;> omega
 have hB : zV (zval neg mag) = .agg #[.bool (neg && decide (¬ m = ⟨⟨[]⟩⟩)), .string m] := by
  have hd : decide (¬ m = ⟨⟨[]⟩⟩) = decide (¬ bv mag = 0) := decide_eq_decide.2 (not_congr (by rw [hm]; exact mg_nil))
  rw [hd]
  unfold zV zR
  rw [hab, <- hm]
  refine congrArg (fun b => Value.agg #[.bool b, .string m]) ?_
  unfold zval
  cases neg
  ·simp
  ·rw [Bool.eq_iff_iff]; simp; omega
 obtain ⟨sg, rm, hzv⟩ := zV_ex (zval neg mag)
 rw [hzv] at hA hB ⊢
 clear hzv hab
 unfold zR
 refine Con.of ttOk mixed Tryz.func217 {} .nil 0 (by kernel_rfl) (fun P' E hP hE => ?_)
 have hsq : ∀ z : ByteArray, z = ⟨⟨[]⟩⟩ -> Env.std.bn (Env.std.sq m z) = decide (¬ m = ⟨⟨[]⟩⟩) := by
  intro z hz
  rw [s_bn, sq_iff, hz]; simp
 have rest : ∀ (K : AV -> List Blk -> Prop), True := fun _ => trivial
 cbv
 refine fork.mk ?_ ?_
 ·intro g1
  have g1' : 0 < mag.size := by
   subst hE
   have h := of_decide_eq_true (show decide ((mag.size : Int) > 0) = true from g1)
   omega
  cbv
  refine Need.mk (by subst hE; simp; omega) ?_
  cbv
  refine fork.mk ?_ ?_
  ·intro g2
   have hh := hA ((dg mag).getD 0 0) ((dg mag).drop 1) (by
    have : 0 < (dg mag).length := by rw [<- dg_size]; exact g1'
    cases e : dg mag with
    | nil => rw [e] at this; simp at this
    | cons d l => rfl) (by
    intro e
    subst hE
    have h : Env.std.ic .neq (Env.std.sa mag 0) 0 = true := g2
    rw [s_neq, s_sa, dg_get] at h
    simp at h
    exact h (by
     have e' : (dg mag)[0]?.getD 0 = 0 := by rw [<- List.getD_eq_getElem?_getD]; exact e
     rw [e']; rfl))
   cbv
   rw [hh]
  ·intro g2
   cbv
   refine CallTo.w hP hE ht ⟨rfl, trivial⟩ ?_
   cbv
   refine fork.mk ?_ ?_
   ·intro g3
    rw [g3] at hB
    cbv
    subst hE
    rw [hB]
    have := hsq ⟨⟨[]⟩⟩ rfl
    simp only [Bool.true_and]
    exact congrArg (fun b => Value.agg #[.bool b, .string m]) this
   ·intro g3
    rw [g3] at hB
    cbv
    rw [hB]; rfl
 ·intro g1
  cbv
  refine CallTo.w hP hE ht ⟨rfl, trivial⟩ ?_
  cbv
  refine fork.mk ?_ ?_
  ·intro g3
   rw [g3] at hB
   cbv
   subst hE
   rw [hB]
   have := hsq ⟨⟨[]⟩⟩ rfl
   simp only [Bool.true_and]
   exact congrArg (fun b => Value.agg #[.bool b, .string m]) this
  ·intro g3
   rw [g3] at hB
   cbv
   rw [hB]; rfl
end Go.Proofs.YtfdealobplcboaaGreat.Sx
