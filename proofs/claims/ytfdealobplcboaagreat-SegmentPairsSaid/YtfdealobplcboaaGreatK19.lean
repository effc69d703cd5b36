/- Part 19 of what the statement needs: an executor of Go texts, arithmetic, and contracts of the functions that are called. -/
import Derived.Test.YtfdealobplcboaaGreatK18
import Derived.Test.YtfdealobplcboaaGreatRows
import Derived.WalkKit
import Derived.ProofKit
import Derived.OpenShut
import Derived.ShutString
import Derived.ChangeOld
import Derived.Below
import Derived.SizedLaws
import Derived.Carry
/- Segments in the plane: what their functions reckon is right. No program stands here. -/
set_option linter.unusedVariables false
set_option linter.unusedSimpArgs false
namespace Go.Proofs.YtfdealobplcboaaGreat.Sx

theorem mul_neg_iff {a b : Rat} : a * b < 0 ↔ (a < 0 ∧ 0 < b) ∨ (0 < a ∧ b < 0) := by
  constructor
  · intro h
    by_cases ha : 0 < a
    · refine .inr ⟨ha, ?_⟩
      exact (Rat.mul_neg_iff_of_pos_left ha).1 h
    · by_cases hb : 0 < b
      · refine .inl ⟨?_, hb⟩
        exact (Rat.mul_neg_iff_of_pos_right hb).1 h
      · have := Rat.mul_nonneg (a := -a) (b := -b) (by grind) (by grind)
        grind
  · rintro (⟨h1, h2⟩ | ⟨h1, h2⟩)
    · exact (Rat.mul_neg_iff_of_pos_right h2).2 h1
    · exact (Rat.mul_neg_iff_of_pos_left h1).2 h2
theorem mul_pos_iff {a b : Rat} : 0 < a * b ↔ (0 < a ∧ 0 < b) ∨ (a < 0 ∧ b < 0) := by
  have := mul_neg_iff (a := a) (b := -b)
  constructor
  · intro h
    have h2 : a * -b < 0 := by grind
    have := this.1 h2
    grind
  · intro h
    have : a * -b < 0 := this.2 (by grind)
    grind
theorem sgn_mul {a b : Rat} : cmpQ a 0 * cmpQ b 0 = -1 ↔ a * b < 0 := by
  rw [mul_neg_iff]
  unfold cmpQ
  by_cases h1 : a < 0 <;> by_cases h2 : 0 < a <;> by_cases h3 : b < 0 <;> by_cases h4 : 0 < b <;> simp [h1, h2, h3, h4] <;> grind
/-- A number t with n = t d lies strictly between 0 and 1. -/
theorem frac_in {n d : Rat} (hd : d ≠ 0) : n * (n - d) < 0 ↔ 0 < n / d ∧ n / d < 1 := by
  obtain ⟨t, ht⟩ : ∃ t, t = n / d := ⟨_, rfl⟩
  have hn : n = t * d := by grind
  rw [← ht, hn]
  have h2 : 0 < d * d := by
    rw [mul_pos_iff]; grind
  have e : t * d * (t * d - d) = (d * d) * (t * (t - 1)) := by grind
  rw [e, Rat.mul_neg_iff_of_pos_left h2, mul_neg_iff]
  grind
def sidesQ (s t : Sq) : Prop := orQ s.a s.b t.a * orQ s.a s.b t.b = -1 ∧ orQ t.a t.b s.a * orQ t.a t.b s.b = -1
theorem unitQ_iff {t : Rat} : unitQ t = true ↔ 0 ≤ t ∧ t ≤ 1 := by
  unfold unitQ
  rw [decide_eq_true_iff, cmpQ_ge, cmpQ_le]
theorem chkQ_iff {s : Sq} : chkQ s ≠ 0 ↔ s.a = s.b := by
  unfold chkQ
  rw [← cmpP_eq]
  split <;> simp_all
theorem wrongQ_iff {s t : Sq} : wrongQ s t = true ↔ s.a = s.b ∨ t.a = t.b := by
  unfold wrongQ
  rw [decide_eq_true_iff, chkQ_iff, chkQ_iff]
theorem crossQ_iff {s t : Sq} : crossQ s t = true ↔ wrongQ s t = false ∧ ∃ m, meetQ s t = some m ∧ m.a = m.b ∧ s.a ≠ m.a ∧ s.b ≠ m.a ∧ t.a ≠ m.a ∧ t.b ≠ m.a := by
  unfold crossQ
  cases h : meetQ s t with
  | none => simp
  | some m => simp [cmpP_eq]
theorem grP_or (p q : Pq) : grP p q = p ∨ grP p q = q := by unfold grP; split <;> simp
theorem lsP_or (p q : Pq) : lsP p q = p ∨ lsP p q = q := by unfold lsP; split <;> simp
theorem ordS_a (s : Sq) : (ordS s).a = s.a ∨ (ordS s).a = s.b := by unfold ordS; split <;> simp
theorem ordS_b (s : Sq) : (ordS s).b = s.a ∨ (ordS s).b = s.b := by unfold ordS; split <;> simp
/-- Where two segments are parallel, their common points begin with an end. -/
theorem meet_par {s t m : Sq} (h : meetQ s t = some m) (hd : (s.b.sub s.a).cross (t.b.sub t.a) = 0) : m.a = s.a ∨ m.a = s.b ∨ m.a = t.a ∨ m.a = t.b := by
  unfold meetQ at h
  rw [if_neg (by rw [cmpQ_eq.2 hd]; simp)] at h
  split at h
  · cases h
  · split at h
    · cases h
    · injection h with h
      rw [← h]
      have := grP_or (ordS s).a (ordS t).a
      have := ordS_a s
      have := ordS_a t
      grind
theorem meet_gen {s t : Sq} (hd : (s.b.sub s.a).cross (t.b.sub t.a) ≠ 0) {x y : Rat} (hx : x = ((t.a.sub s.a).cross (t.b.sub t.a)) / ((s.b.sub s.a).cross (t.b.sub t.a))) (hy : y = ((t.a.sub s.a).cross (s.b.sub s.a)) / ((s.b.sub s.a).cross (t.b.sub t.a))) :
    meetQ s t = if (0 ≤ x ∧ x ≤ 1) ∧ (0 ≤ y ∧ y ≤ 1) then some ⟨s.a.at s.b x, s.a.at s.b x⟩ else none := by
  unfold meetQ
  rw [if_pos (by rw [ne_eq, cmpQ_eq]; exact hd), ← hx, ← hy]
  simp only [unitQ_iff]
theorem cross_iff (s t : Sq) : crossQ s t = true ↔ sidesQ s t := by
  unfold sidesQ orQ
  rw [sgn_mul, sgn_mul, crossQ_iff]
  obtain ⟨d, hd⟩ : ∃ d, d = (s.b.sub s.a).cross (t.b.sub t.a) := ⟨_, rfl⟩
  obtain ⟨p, hp⟩ : ∃ d, d = (t.a.sub s.a).cross (t.b.sub t.a) := ⟨_, rfl⟩
  obtain ⟨q, hq⟩ : ∃ d, d = (t.a.sub s.a).cross (s.b.sub s.a) := ⟨_, rfl⟩
  have e1 : (s.b.sub s.a).cross (t.a.sub s.a) = -q := by rw [hq]; simp only [Pq.cross, Pq.sub]; grind
  have e2 : (s.b.sub s.a).cross (t.b.sub s.a) = d - q := by rw [hq, hd]; simp only [Pq.cross, Pq.sub]; grind
  have e3 : (t.b.sub t.a).cross (s.a.sub t.a) = p := by rw [hp]; simp only [Pq.cross, Pq.sub]; grind
  have e4 : (t.b.sub t.a).cross (s.b.sub t.a) = p - d := by rw [hp, hd]; simp only [Pq.cross, Pq.sub]; grind
  rw [e1, e2, e3, e4]
  have e5 : -q * (d - q) = q * (q - d) := by grind
  rw [e5]
  by_cases h0 : d = 0
  · -- parallel: neither
    have hR : ¬ (q * (q - d) < 0 ∧ p * (p - d) < 0) := by
      rintro ⟨h, _⟩
      rw [h0, mul_neg_iff] at h
      grind
    refine iff_of_false ?_ hR
    rintro ⟨_, m, hm, _, h1, h2, h3, h4⟩
    have := meet_par hm (by rw [← hd, h0])
    grind
  · rw [frac_in h0, frac_in h0]
    obtain ⟨x, hx⟩ : ∃ x, x = p / d := ⟨_, rfl⟩
    obtain ⟨y, hy⟩ : ∃ x, x = q / d := ⟨_, rfl⟩
    have hm := meet_gen (s := s) (t := t) (x := x) (y := y) (by rw [← hd]; exact h0) (by rw [← hd, ← hp]; exact hx) (by rw [← hd, ← hq]; exact hy)
    have px : p = x * d := by grind
    have qy : q = y * d := by grind
    rw [hm, ← hx, ← hy]
    clear hx hy hm
    obtain ⟨⟨ax, ay⟩, ⟨bx, by'⟩⟩ := s
    obtain ⟨⟨cx, cy⟩, ⟨dx, dy⟩⟩ := t
    simp only [Pq.cross, Pq.sub] at hd hp hq e1 e2 e3 e4
    clear e1 e2 e3 e4 e5
    -- the common point, seen from the other segment
    have f1 : ax + (bx - ax) * x = cx + (dx - cx) * y := by grind
    have f2 : ay + (by' - ay) * x = cy + (dy - cy) * y := by grind
    have nab : ¬ (ax = bx ∧ ay = by') := by grind
    have ncd : ¬ (cx = dx ∧ cy = dy) := by grind
    have hw : wrongQ ⟨⟨ax, ay⟩, ⟨bx, by'⟩⟩ ⟨⟨cx, cy⟩, ⟨dx, dy⟩⟩ = false := by
      rw [← Bool.not_eq_true, wrongQ_iff]
      simp only [Pq.iff]
      grind
    rw [hw]
    constructor
    · rintro ⟨_, m, h1, _, h2, h3, h4, h5⟩
      split at h1
      · rename_i hh
        injection h1 with h1
        rw [← h1] at h2 h3 h4 h5
        simp only [Pq.at, Pq.add, Pq.sub, Pq.scale, ne_eq, Pq.iff] at h2 h3 h4 h5
        rw [f1, f2] at h4 h5
        refine ⟨⟨?_, ?_⟩, ⟨?_, ?_⟩⟩
        · refine Rat.lt_of_le_of_ne hh.2.1 (fun e => h4 ?_); rw [← e]; grind
        · refine Rat.lt_of_le_of_ne hh.2.2 (fun e => h5 ?_); rw [e]; grind
        · refine Rat.lt_of_le_of_ne hh.1.1 (fun e => h2 ?_); rw [← e]; grind
        · refine Rat.lt_of_le_of_ne hh.1.2 (fun e => h3 ?_); rw [e]; grind
      · cases h1
    · rintro ⟨⟨h1, h2⟩, h3, h4⟩
      rw [if_pos ⟨⟨Rat.le_of_lt h3, Rat.le_of_lt h4⟩, Rat.le_of_lt h1, Rat.le_of_lt h2⟩]
      refine ⟨rfl, _, rfl, rfl, ?_, ?_, ?_, ?_⟩
      · simp only [Pq.at, Pq.add, Pq.sub, Pq.scale, ne_eq, Pq.iff]
        rintro ⟨g1, g2⟩
        have : (bx - ax) * x = 0 := by grind
        have : (by' - ay) * x = 0 := by grind
        grind
      · simp only [Pq.at, Pq.add, Pq.sub, Pq.scale, ne_eq, Pq.iff]
        rintro ⟨g1, g2⟩
        have : (bx - ax) * (x - 1) = 0 := by grind
        have : (by' - ay) * (x - 1) = 0 := by grind
        grind
      · simp only [Pq.at, Pq.add, Pq.sub, Pq.scale, ne_eq, Pq.iff]
        rw [f1, f2]
        rintro ⟨g1, g2⟩
        have : (dx - cx) * y = 0 := by grind
        have : (dy - cy) * y = 0 := by grind
        grind
      · simp only [Pq.at, Pq.add, Pq.sub, Pq.scale, ne_eq, Pq.iff]
        rw [f1, f2]
        rintro ⟨g1, g2⟩
        have : (dx - cx) * (y - 1) = 0 := by grind
        have : (dy - cy) * (y - 1) = 0 := by grind
        grind
/-- A segment with its ends exchanged. -/
def Sq.turn (s : Sq) : Sq := ⟨s.b, s.a⟩
theorem sides_turn (s t : Sq) : sidesQ t s.turn ↔ sidesQ s t := by
  unfold sidesQ
  have h (a b c : Pq) : orQ b a c = - orQ a b c := by
    unfold orQ
    have e : (a.sub b).cross (c.sub b) = - (b.sub a).cross (c.sub a) := by simp only [Pq.cross, Pq.sub]; grind
    rw [e]
    generalize (b.sub a).cross (c.sub a) = z
    unfold cmpQ
    by_cases h1 : z < 0 <;> by_cases h2 : 0 < z <;> simp [h1, h2] <;> grind
  show (orQ t.a t.b s.b * orQ t.a t.b s.a = -1 ∧ orQ s.b s.a t.a * orQ s.b s.a t.b = -1) ↔ _
  rw [h s.a s.b t.a, h s.a s.b t.b, Int.neg_mul_neg, Int.mul_comm (orQ t.a t.b s.b)]
  exact And.comm
theorem cmpP_lt {p q : Pq} : cmpP p q < 0 ↔ p.x < q.x ∨ (p.x = q.x ∧ p.y < q.y) := by
  unfold cmpP cmpQ; grind
theorem cmpP_gt {p q : Pq} : 0 < cmpP p q ↔ q.x < p.x ∨ (p.x = q.x ∧ q.y < p.y) := by
  unfold cmpP cmpQ; grind
theorem cmpP_le {p q : Pq} : cmpP p q ≤ 0 ↔ p.x < q.x ∨ (p.x = q.x ∧ p.y ≤ q.y) := by
  unfold cmpP cmpQ; grind
theorem cmpP_ge {p q : Pq} : 0 ≤ cmpP p q ↔ q.x < p.x ∨ (p.x = q.x ∧ q.y ≤ p.y) := by
  unfold cmpP cmpQ; grind
theorem cmpP_mul {a b c d : Pq} : 0 ≤ cmpP a b * cmpP c d ↔ (cmpP a b ≤ 0 ∧ cmpP c d ≤ 0) ∨ (0 ≤ cmpP a b ∧ 0 ≤ cmpP c d) := by
  rcases cmpP_rng a b with h | h | h <;> rcases cmpP_rng c d with h' | h' | h' <;> rw [h, h'] <;> decide
/-- The points of a segment. -/
def OnS (s : Sq) (p : Pq) : Prop := ∃ t : Rat, 0 ≤ t ∧ t ≤ 1 ∧ p = s.a.at s.b t
theorem mul_le_self {a t : Rat} (ha : 0 ≤ a) (h0 : 0 ≤ t) (h1 : t ≤ 1) : 0 ≤ a * t ∧ a * t ≤ a := by
  have h2 := Rat.mul_nonneg ha h0
  have h3 := Rat.mul_nonneg ha (show 0 ≤ 1 - t by grind)
  grind
theorem div_in {n d : Rat} (hd : 0 < d) : (0 ≤ n / d ↔ 0 ≤ n) ∧ (n / d ≤ 1 ↔ n ≤ d) := by
  obtain ⟨t, ht⟩ : ∃ t, t = n / d := ⟨_, rfl⟩
  have hn : n = d * t := by grind
  rw [← ht]
  constructor
  · constructor
    · intro h; have := Rat.mul_nonneg (Rat.le_of_lt hd) h; grind
    · intro h
      refine Decidable.byContradiction fun c => ?_
      have := (Rat.mul_neg_iff_of_pos_left hd).2 (show t < 0 by grind)
      grind
  · constructor
    · intro h; have := Rat.mul_nonneg (Rat.le_of_lt hd) (show 0 ≤ 1 - t by grind); grind
    · intro h
      refine Decidable.byContradiction fun c => ?_
      have := (Rat.mul_neg_iff_of_pos_left hd).2 (show 1 - t < 0 by grind)
      grind
theorem on_iff (s : Sq) (p : Pq) : onQ s p = true ↔ OnS s p := by
  obtain ⟨⟨ax, ay⟩, ⟨bx, by'⟩⟩ := s
  obtain ⟨px, py⟩ := p
  unfold onQ btwQ OnS orQ
  rw [decide_eq_true_iff, cmpQ_eq, cmpP_mul, cmpP_le, cmpP_le, cmpP_ge, cmpP_ge, ne_eq, cmpP_eq, cmpP_eq]
  simp only [Pq.cross, Pq.sub, Pq.at, Pq.add, Pq.scale, Pq.iff]
  constructor
  · rintro ⟨h1, h2, h3⟩
    by_cases hab : ax = bx ∧ ay = by'
    · exact ⟨0, by grind, by grind, by grind, by grind⟩
    · by_cases hx : ax = bx
      · have hy : by' ≠ ay := by grind
        have hpx : px = ax := by
          have : (by' - ay) * (px - ax) = 0 := by grind
          grind
        refine ⟨(py - ay) / (by' - ay), ?_, ?_, by grind, by grind⟩
        · by_cases g : ay < by'
          · rw [(div_in (by grind)).1]; grind
          · have e : (py - ay) / (by' - ay) = (ay - py) / (ay - by') := by grind
            rw [e, (div_in (by grind)).1]; grind
        · by_cases g : ay < by'
          · rw [(div_in (by grind)).2]; grind
          · have e : (py - ay) / (by' - ay) = (ay - py) / (ay - by') := by grind
            rw [e, (div_in (by grind)).2]; grind
      · refine ⟨(px - ax) / (bx - ax), ?_, ?_, by grind, by grind⟩
        · by_cases g : ax < bx
          · rw [(div_in (by grind)).1]; grind
          · have e : (px - ax) / (bx - ax) = (ax - px) / (ax - bx) := by grind
            rw [e, (div_in (by grind)).1]; grind
        · by_cases g : ax < bx
          · rw [(div_in (by grind)).2]; grind
          · have e : (px - ax) / (bx - ax) = (ax - px) / (ax - bx) := by grind
            rw [e, (div_in (by grind)).2]; grind
  · rintro ⟨t, h0, h1, h2, h3⟩
    refine ⟨by grind, ?_, ?_⟩
    · by_cases g : ax < bx
      · have := mul_le_self (a := bx - ax) (t := t) (by grind) h0 h1
        by_cases g2 : ay ≤ by'
        · have := mul_le_self (a := by' - ay) (t := t) (by grind) h0 h1
          by_cases e0 : px = ax
          · have : (bx - ax) * t = 0 := by grind
            have : t = 0 := by grind
            grind
          · by_cases e1 : px = bx
            · have : (bx - ax) * (t - 1) = 0 := by grind
              have : t = 1 := by grind
              grind
            · grind
        · by_cases e0 : px = ax
          · have : (bx - ax) * t = 0 := by grind
            have : t = 0 := by grind
            grind
          · by_cases e1 : px = bx
            · have : (bx - ax) * (t - 1) = 0 := by grind
              have : t = 1 := by grind
              grind
            · grind
      · by_cases g' : bx < ax
        · have := mul_le_self (a := ax - bx) (t := t) (by grind) h0 h1
          by_cases e0 : px = ax
          · have : (bx - ax) * t = 0 := by grind
            have : t = 0 := by grind
            grind
          · by_cases e1 : px = bx
            · have : (bx - ax) * (t - 1) = 0 := by grind
              have : t = 1 := by grind
              grind
            · grind
        · have hx : ax = bx := by grind
          by_cases g2 : ay ≤ by'
          · have := mul_le_self (a := by' - ay) (t := t) (by grind) h0 h1
            grind
          · have := mul_le_self (a := ay - by') (t := t) (by grind) h0 h1
            grind
    · by_cases hab : ax = bx ∧ ay = by'
      · grind
      · exact .inl hab
/-- The lexicographic order. -/
def leP (p q : Pq) : Prop := p.x < q.x ∨ (p.x = q.x ∧ p.y ≤ q.y)
theorem leP_cmp {p q : Pq} : cmpP p q ≤ 0 ↔ leP p q := cmpP_le
theorem leP_cmp' {p q : Pq} : 0 ≤ cmpP p q ↔ leP q p := by
  rw [cmpP_ge]; unfold leP; grind
theorem leP_lt {p q : Pq} : ¬ leP p q ↔ 0 < cmpP p q := by
  rw [cmpP_gt]; unfold leP; grind
theorem leP_anti {p q : Pq} (h : leP p q) (h' : leP q p) : p = q := by
  unfold leP at h h'
  exact Pq.ext' (by grind) (by grind)
theorem leP_refl (p : Pq) : leP p p := by unfold leP; grind
theorem leP_trans {p q r : Pq} (h : leP p q) (h' : leP q r) : leP p r := by unfold leP at *; grind
theorem leP_total (p q : Pq) : leP p q ∨ leP q p := by unfold leP; grind
theorem ordS_le (s : Sq) : leP (ordS s).a (ordS s).b := by
  unfold ordS
  split
  · rename_i h; rw [cmpP_gt] at h; unfold leP; grind
  · rename_i h; rw [← leP_lt] at h; simpa using h
theorem on_lex (s : Sq) (p : Pq) : OnS s p ↔ (s.b.sub s.a).cross (p.sub s.a) = 0 ∧ leP (ordS s).a p ∧ leP p (ordS s).b := by
  rw [← on_iff]
  unfold onQ btwQ orQ
  rw [decide_eq_true_iff, cmpQ_eq, cmpP_mul, leP_cmp, leP_cmp, leP_cmp', leP_cmp', ne_eq, cmpP_eq, cmpP_eq]
  refine and_congr_right fun _ => ?_
  unfold ordS
  split
  · rename_i h
    rw [← leP_lt] at h
    have n : ¬ s.a = s.b := fun e => h (by rw [e]; exact leP_refl _)
    constructor
    · rintro ⟨h1 | h1, _⟩
      · exact absurd (leP_trans h1.1 h1.2) h
      · exact ⟨h1.2, h1.1⟩
    · intro h1; exact ⟨.inr ⟨h1.2, h1.1⟩, .inl n⟩
  · rename_i h
    rw [← leP_lt, Classical.not_not] at h
    constructor
    · rintro ⟨h1 | h1, h2⟩
      · exact h1
      · rcases h2 with h2 | h2
        · exact absurd (leP_anti h (leP_trans h1.2 h1.1)) h2
        · rw [← h2]; exact ⟨leP_refl _, h⟩
    · intro h1
      refine ⟨.inl h1, ?_⟩
      by_cases e : s.a = s.b
      · rw [← e] at h1; exact .inr (leP_anti h1.1 h1.2)
      · exact .inl e
theorem gr_le {p q x : Pq} : leP (grP p q) x ↔ leP p x ∧ leP q x := by
  unfold grP
  split
  · rename_i h
    have h : leP p q := by rw [cmpP_lt] at h; unfold leP; grind
    exact ⟨fun g => ⟨leP_trans h g, g⟩, fun g => g.2⟩
  · rename_i h
    have h : leP q p := by rw [← leP_cmp']; omega
    exact ⟨fun g => ⟨g, leP_trans h g⟩, fun g => g.1⟩
theorem ls_le {p q x : Pq} : leP x (lsP p q) ↔ leP x p ∧ leP x q := by
  unfold lsP
  split
  · rename_i h
    have h : leP p q := by rw [cmpP_lt] at h; unfold leP; grind
    exact ⟨fun g => ⟨g, leP_trans g h⟩, fun g => g.1⟩
  · rename_i h
    have h : leP q p := by rw [← leP_cmp']; omega
    exact ⟨fun g => ⟨leP_trans g h, g⟩, fun g => g.2⟩
/-- Parallel vectors. -/
theorem par {u v : Pq} (hu : ¬ (u.x = 0 ∧ u.y = 0)) (h : u.cross v = 0) : ∃ k, v.x = k * u.x ∧ v.y = k * u.y := by
  unfold Pq.cross at h
  by_cases hx : u.x = 0
  · have hy : u.y ≠ 0 := fun e => hu ⟨hx, e⟩
    refine ⟨v.y / u.y, ?_, by grind⟩
    have : u.y * v.x = 0 := by grind
    grind
  · exact ⟨v.x / u.x, by grind, by grind⟩
theorem at_on {s : Sq} : OnS s s.a ∧ OnS s s.b := by
  refine ⟨⟨0, by grind, by grind, Pq.ext' ?_ ?_⟩, ⟨1, by grind, by grind, Pq.ext' ?_ ?_⟩⟩ <;> simp only [Pq.at, Pq.add, Pq.sub, Pq.scale] <;> grind
theorem ord_cases (s : Sq) : ((ordS s).a = s.a ∧ (ordS s).b = s.b) ∨ ((ordS s).a = s.b ∧ (ordS s).b = s.a) := by
  unfold ordS; split <;> simp
/-- What the common points of two valid segments are. -/
theorem meet_on {s t : Sq} (hs : s.a ≠ s.b) (ht : t.a ≠ t.b) (x : Pq) : OnS s x ∧ OnS t x ↔ ∃ m, meetQ s t = some m ∧ OnS m x := by
  by_cases h0 : (s.b.sub s.a).cross (t.b.sub t.a) = 0
  · by_cases h1 : (s.b.sub s.a).cross (t.a.sub s.a) = 0
    · -- on one line
      have hu : ¬ ((s.b.sub s.a).x = 0 ∧ (s.b.sub s.a).y = 0) := fun h => hs (Pq.ext' (by have := h.1; simp only [Pq.sub] at this; grind) (by have := h.2; simp only [Pq.sub] at this; grind))
      obtain ⟨k, hk1, hk2⟩ := par hu h0
      obtain ⟨j, hj1, hj2⟩ := par hu h1
      have hk : k ≠ 0 := by
        intro e
        refine ht (Pq.ext' ?_ ?_)
        · simp only [Pq.sub] at hk1; grind
        · simp only [Pq.sub] at hk2; grind
      have hL : ∀ p : Pq, (t.b.sub t.a).cross (p.sub t.a) = 0 ↔ (s.b.sub s.a).cross (p.sub s.a) = 0 := by
        intro p
        have e : (t.b.sub t.a).cross (p.sub t.a) = k * (s.b.sub s.a).cross (p.sub s.a) := by
          simp only [Pq.cross, Pq.sub] at *
          grind
        rw [e, Rat.mul_eq_zero]
        exact ⟨fun h => h.resolve_left hk, .inr⟩
      rw [on_lex, on_lex, hL]
      have hm : meetQ s t = if cmpP (grP (ordS s).a (ordS t).a) (lsP (ordS s).b (ordS t).b) > 0 then none else some ⟨grP (ordS s).a (ordS t).a, lsP (ordS s).b (ordS t).b⟩ := by
        unfold meetQ
        rw [if_neg (by rw [cmpQ_eq.2 h0]; simp), if_neg (by rw [cmpQ_eq.2 h1]; simp)]
      obtain ⟨a, ha⟩ : ∃ a, a = grP (ordS s).a (ordS t).a := ⟨_, rfl⟩
      obtain ⟨b, hb⟩ : ∃ a, a = lsP (ordS s).b (ordS t).b := ⟨_, rfl⟩
      have hx : (leP (ordS s).a x ∧ leP x (ordS s).b) ∧ (leP (ordS t).a x ∧ leP x (ordS t).b) ↔ leP a x ∧ leP x b := by
        rw [ha, hb, gr_le, ls_le]
        exact ⟨fun h => ⟨⟨h.1.1, h.2.1⟩, h.1.2, h.2.2⟩, fun h => ⟨⟨h.1.1, h.2.1⟩, h.1.2, h.2.2⟩⟩
      have hleft : ((s.b.sub s.a).cross (x.sub s.a) = 0 ∧ leP (ordS s).a x ∧ leP x (ordS s).b) ∧ (s.b.sub s.a).cross (x.sub s.a) = 0 ∧ leP (ordS t).a x ∧ leP x (ordS t).b ↔ (s.b.sub s.a).cross (x.sub s.a) = 0 ∧ leP a x ∧ leP x b := by
        rw [← hx]
        exact ⟨fun h => ⟨h.1.1, h.1.2, h.2.2⟩, fun h => ⟨⟨h.1, h.2.1⟩, h.1, h.2.2⟩⟩
      rw [hleft, hm, ← ha, ← hb]
      -- a and b lie on the line
      have lS : (s.b.sub s.a).cross (s.a.sub s.a) = 0 ∧ (s.b.sub s.a).cross (s.b.sub s.a) = 0 := by simp only [Pq.cross, Pq.sub]; grind
      have lT : (s.b.sub s.a).cross (t.a.sub s.a) = 0 ∧ (s.b.sub s.a).cross (t.b.sub s.a) = 0 := by
        refine ⟨h1, ?_⟩
        rw [← hL]; simp only [Pq.cross, Pq.sub]; grind
      have la : (s.b.sub s.a).cross (a.sub s.a) = 0 := by
        rcases grP_or (ordS s).a (ordS t).a with h | h <;> rw [ha, h]
        · rcases ordS_a s with h | h <;> rw [h]
          · exact lS.1
          · exact lS.2
        · rcases ordS_a t with h | h <;> rw [h]
          · exact lT.1
          · exact lT.2
      have lb : (s.b.sub s.a).cross (b.sub s.a) = 0 := by
        rcases lsP_or (ordS s).b (ordS t).b with h | h <;> rw [hb, h]
        · rcases ordS_b s with h | h <;> rw [h]
          · exact lS.1
          · exact lS.2
        · rcases ordS_b t with h | h <;> rw [h]
          · exact lT.1
          · exact lT.2
      split
      · rename_i hc
        have hc : ¬ leP a b := leP_lt.2 hc
        constructor
        · rintro ⟨_, h2, h3⟩; exact absurd (leP_trans h2 h3) hc
        · rintro ⟨m, h, _⟩; cases h
      · rename_i hc
        have hc : leP a b := by rw [← leP_cmp]; omega
        have ho : ordS ⟨a, b⟩ = ⟨a, b⟩ := by
          unfold ordS
          rw [if_neg (by rw [← leP_lt, Classical.not_not]; exact hc)]
        have hR : (∃ m, some (⟨a, b⟩ : Sq) = some m ∧ OnS m x) ↔ OnS ⟨a, b⟩ x := by
          constructor
          · rintro ⟨m, h, h'⟩; injection h with h; rw [h]; exact h'
          · intro h; exact ⟨_, rfl, h⟩
        rw [hR, on_lex, ho]
        constructor
        · rintro ⟨h2, h3, h4⟩
          refine ⟨?_, h3, h4⟩
          obtain ⟨k1, q1, q2⟩ := par hu la
          obtain ⟨k2, q3, q4⟩ := par hu lb
          obtain ⟨k3, q5, q6⟩ := par hu h2
          simp only [Pq.cross, Pq.sub] at *
          grind
        · rintro ⟨h2, h3, h4⟩
          refine ⟨?_, h3, h4⟩
          by_cases e : a = b
          · rw [← e] at h4
            rw [← leP_anti h3 h4]; exact la
          · obtain ⟨k1, q1, q2⟩ := par hu la
            obtain ⟨k2, q3, q4⟩ := par hu lb
            have ne : k2 - k1 ≠ 0 := by
              intro e'
              refine e (Pq.ext' ?_ ?_)
              · simp only [Pq.sub] at q1 q3; grind
              · simp only [Pq.sub] at q2 q4; grind
            have e2 : (b.sub a).cross (x.sub a) = (k2 - k1) * (s.b.sub s.a).cross (x.sub s.a) := by
              simp only [Pq.cross, Pq.sub] at *
              grind
            have h2 : (b.sub a).cross (x.sub a) = 0 := h2
            rw [e2, Rat.mul_eq_zero] at h2
            exact h2.resolve_left ne
    · -- parallel lines
      have hm : meetQ s t = none := by
        unfold meetQ
        rw [if_neg (by rw [cmpQ_eq.2 h0]; simp), if_pos (by rw [ne_eq, cmpQ_eq]; exact h1)]
      rw [hm]
      refine iff_of_false ?_ (by rintro ⟨m, h, _⟩; cases h)
      rintro ⟨⟨l, _, _, hl⟩, ⟨n, _, _, hn⟩⟩
      rw [hl] at hn
      have := Pq.iff.1 hn
      simp only [Pq.at, Pq.add, Pq.sub, Pq.scale, Pq.cross] at *
      refine h1 ?_
      grind
  · -- one common point at most
    obtain ⟨u, hu⟩ : ∃ x, x = ((t.a.sub s.a).cross (t.b.sub t.a)) / ((s.b.sub s.a).cross (t.b.sub t.a)) := ⟨_, rfl⟩
    obtain ⟨v, hv⟩ : ∃ x, x = ((t.a.sub s.a).cross (s.b.sub s.a)) / ((s.b.sub s.a).cross (t.b.sub t.a)) := ⟨_, rfl⟩
    rw [meet_gen h0 hu hv]
    have eu : (t.a.sub s.a).cross (t.b.sub t.a) = u * (s.b.sub s.a).cross (t.b.sub t.a) := by grind
    have ev : (t.a.sub s.a).cross (s.b.sub s.a) = v * (s.b.sub s.a).cross (t.b.sub t.a) := by grind
    have f : s.a.at s.b u = t.a.at t.b v := by
      refine Pq.ext' ?_ ?_
      · simp only [Pq.at, Pq.add, Pq.sub, Pq.scale, Pq.cross] at *; grind
      · simp only [Pq.at, Pq.add, Pq.sub, Pq.scale, Pq.cross] at *; grind
    constructor
    · rintro ⟨⟨l, l0, l1, hl⟩, ⟨n, n0, n1, hn⟩⟩
      have hh := Pq.iff.1 (hl.symm.trans hn)
      have el : l = u := by
        have : (l - u) * (s.b.sub s.a).cross (t.b.sub t.a) = 0 := by
          simp only [Pq.at, Pq.add, Pq.sub, Pq.scale, Pq.cross] at *; grind
        grind
      have en : n = v := by
        have : (n - v) * (s.b.sub s.a).cross (t.b.sub t.a) = 0 := by
          simp only [Pq.at, Pq.add, Pq.sub, Pq.scale, Pq.cross] at *; grind
        grind
      rw [← el, ← en, if_pos ⟨⟨l0, l1⟩, n0, n1⟩]
      refine ⟨_, rfl, 0, by grind, by grind, ?_⟩
      rw [hl]
      refine Pq.ext' ?_ ?_ <;> simp only [Pq.at, Pq.add, Pq.sub, Pq.scale] <;> grind
    · rintro ⟨m, h, w, _, _, hw⟩
      split at h
      · rename_i hh
        injection h with h
        have : x = s.a.at s.b u := by
          rw [hw, ← h]
          refine Pq.ext' ?_ ?_ <;> simp only [Pq.at, Pq.add, Pq.sub, Pq.scale] <;> grind
        exact ⟨⟨u, hh.1.1, hh.1.2, this⟩, ⟨v, hh.2.1, hh.2.2, by rw [this, f]⟩⟩
      · cases h
theorem meet_le {s t m : Sq} (h : meetQ s t = some m) : leP m.a m.b := by
  unfold meetQ at h
  split at h
  · split at h
    · injection h with h; rw [← h]; exact leP_refl _
    · cases h
  · split at h
    · cases h
    · split at h
      · cases h
      · rename_i hc
        injection h with h
        rw [← h, ← leP_cmp]
        show cmpP (grP (ordS s).a (ordS t).a) (lsP (ordS s).b (ordS t).b) ≤ 0
        omega
/-- A segment in order is known by its points. -/
theorem seg_ext {m n : Sq} (hm : leP m.a m.b) (hn : leP n.a n.b) (h : ∀ x, OnS m x ↔ OnS n x) : m = n := by
  have om : ordS m = m := by unfold ordS; rw [if_neg (by rw [← leP_lt, Classical.not_not]; exact hm)]
  have on' : ordS n = n := by unfold ordS; rw [if_neg (by rw [← leP_lt, Classical.not_not]; exact hn)]
  have h1 := (on_lex n m.a).1 ((h m.a).1 at_on.1)
  have h2 := (on_lex n m.b).1 ((h m.b).1 at_on.2)
  have h3 := (on_lex m n.a).1 ((h n.a).2 at_on.1)
  have h4 := (on_lex m n.b).1 ((h n.b).2 at_on.2)
  rw [on'] at h1 h2
  rw [om] at h3 h4
  rw [Sq.iff]
  exact ⟨leP_anti h3.2.1 h1.2.1, leP_anti h2.2.2 h4.2.2⟩
theorem on_turn (s : Sq) (x : Pq) : OnS s.turn x ↔ OnS s x := by
  have h : ∀ (s : Sq) (x : Pq), OnS s x → OnS s.turn x := by
    rintro s x ⟨t, h0, h1, h2⟩
    refine ⟨1 - t, by grind, by grind, ?_⟩
    rw [h2]
    refine Pq.ext' ?_ ?_ <;> simp only [Pq.at, Pq.add, Pq.sub, Pq.scale, Sq.turn] <;> grind
  exact ⟨fun g => h s.turn x g, h s x⟩
/-- Meet does not depend on the order of the segments, nor of their ends. -/
theorem meet_ext {s t s' t' : Sq} (hs : s.a ≠ s.b) (ht : t.a ≠ t.b) (hs' : s'.a ≠ s'.b) (ht' : t'.a ≠ t'.b) (h : ∀ x, OnS s x ∧ OnS t x ↔ OnS s' x ∧ OnS t' x) : meetQ s t = meetQ s' t' := by
  have h1 := meet_on hs ht
  have h2 := meet_on hs' ht'
  cases e : meetQ s t with
  | none =>
    cases e' : meetQ s' t' with
    | none => rfl
    | some n =>
      exfalso
      obtain ⟨m, hm, _⟩ := (h1 n.a).1 ((h n.a).2 ((h2 n.a).2 ⟨n, e', at_on.1⟩))
      rw [e] at hm; cases hm
  | some m =>
    cases e' : meetQ s' t' with
    | none =>
      exfalso
      obtain ⟨n, hn, _⟩ := (h2 m.a).1 ((h m.a).1 ((h1 m.a).2 ⟨m, e, at_on.1⟩))
      rw [e'] at hn; cases hn
    | some n =>
      congr 1
      refine seg_ext (meet_le e) (meet_le e') (fun x => ?_)
      constructor
      · intro g
        obtain ⟨n', hn, hx⟩ := (h2 x).1 ((h x).1 ((h1 x).2 ⟨m, e, g⟩))
        rw [e'] at hn; injection hn with hn; rw [hn]; exact hx
      · intro g
        obtain ⟨m', hm, hx⟩ := (h1 x).1 ((h x).2 ((h2 x).2 ⟨n, e', g⟩))
        rw [e] at hm; injection hm with hm; rw [hm]; exact hx
theorem dvE_iff {y : Rat} : dvE y ≠ 0 ↔ y = 0 := by
  unfold dvE; split <;> simp_all
theorem height_par {s : Sq} {x : Rat} (hs : s.a ≠ s.b) (h : s.a.x = s.b.x) : heightE s x = 24 := by
  unfold heightE
  rw [if_neg (by rw [chkQ_iff]; exact hs), if_pos (by rw [dvE_iff]; simp only [Pq.sub]; grind)]
theorem height_in {s : Sq} {x : Rat} (hs : s.a ≠ s.b) (h : s.a.x ≠ s.b.x) : heightE s x = if unitQ (hparQ s x) = true then 0 else 14 := by
  unfold heightE
  rw [if_neg (by rw [chkQ_iff]; exact hs), if_neg (by rw [dvE_iff]; simp only [Pq.sub]; grind)]
theorem cmpQ_mul {a b c d : Rat} : 0 < cmpQ a b * cmpQ c d ↔ (a < b ∧ c < d) ∨ (b < a ∧ d < c) := by
  unfold cmpQ
  by_cases h1 : a < b <;> by_cases h2 : b < a <;> by_cases h3 : c < d <;> by_cases h4 : d < c <;> simp [h1, h2, h3, h4] <;> grind
theorem hpar_unit {s : Sq} {x : Rat} (h : s.a.x ≠ s.b.x) : unitQ (hparQ s x) = true ↔ ¬ 0 < cmpQ s.a.x x * cmpQ s.b.x x := by
  rw [unitQ_iff, cmpQ_mul]
  unfold hparQ
  simp only [Pq.sub]
  by_cases g : s.a.x < s.b.x
  · rw [(div_in (show 0 < s.b.x - s.a.x by grind)).1, (div_in (show 0 < s.b.x - s.a.x by grind)).2]; grind
  · have e : (x - s.a.x) / (s.b.x - s.a.x) = (s.a.x - x) / (s.a.x - s.b.x) := by grind
    rw [e, (div_in (show 0 < s.a.x - s.b.x by grind)).1, (div_in (show 0 < s.a.x - s.b.x by grind)).2]; grind
theorem height_out {s : Sq} {x : Rat} (hs : s.a ≠ s.b) (h : s.a.x ≠ s.b.x) (g : 0 < cmpQ s.a.x x * cmpQ s.b.x x) : heightE s x = 14 := by
  rw [height_in hs h, if_neg (fun c => (hpar_unit h).1 c g)]
theorem height_on {s : Sq} {x : Rat} (hs : s.a ≠ s.b) (h : s.a.x ≠ s.b.x) (g : ¬ 0 < cmpQ s.a.x x * cmpQ s.b.x x) : heightE s x = 0 ∧ onQ s ⟨x, heightQ s x⟩ = true := by
  have hu := (hpar_unit h).2 g
  have he : heightE s x = 0 := by rw [height_in hs h, if_pos hu]
  refine ⟨he, ?_⟩
  rw [on_iff]
  rw [unitQ_iff] at hu
  refine ⟨hparQ s x, hu.1, hu.2, Pq.ext' ?_ ?_⟩
  · simp only [Pq.at, Pq.add, Pq.sub, Pq.scale, hparQ]; grind
  · simp only [heightQ, if_pos he, Pq.at, Pq.add, Pq.sub, Pq.scale]; grind
theorem sq_nonneg (a : Rat) : 0 ≤ a * a := by
  by_cases h : 0 ≤ a
  · exact Rat.mul_nonneg h h
  · have := Rat.mul_nonneg (a := -a) (b := -a) (by grind) (by grind)
    grind
theorem sq_pos {a : Rat} (h : a ≠ 0) : 0 < a * a := by
  refine Rat.lt_of_le_of_ne (sq_nonneg a) (fun e => h ?_)
  rcases Rat.mul_eq_zero.1 e.symm with h | h <;> exact h
theorem dir_pos {s : Sq} (hs : s.a ≠ s.b) : 0 < (s.b.sub s.a).dot (s.b.sub s.a) := by
  simp only [Pq.dot, Pq.sub]
  by_cases hx : s.b.x - s.a.x = 0
  · have hy : s.b.y - s.a.y ≠ 0 := fun e => hs (Pq.ext' (by grind) (by grind))
    have := sq_pos hy; have := sq_nonneg (s.b.x - s.a.x); grind
  · have := sq_pos hx; have := sq_nonneg (s.b.y - s.a.y); grind
/-- The distance of a point of a segment's line. -/
theorem dist_at {s : Sq} {p : Pq} (hs : s.a ≠ s.b) (t : Rat) : p.dist (s.a.at s.b t) = p.dist s.a + ((s.b.sub s.a).dot (s.b.sub s.a)) * (t * t - 2 * t * paramQ s p) := by
  have := dir_pos hs
  have e : ((p.sub s.a).dot (s.b.sub s.a)) = paramQ s p * ((s.b.sub s.a).dot (s.b.sub s.a)) := by unfold paramQ; grind
  generalize paramQ s p = w at *
  simp only [Pq.dist, Pq.dot, Pq.at, Pq.add, Pq.sub, Pq.scale] at *
  grind
theorem at_0 (s : Sq) : s.a.at s.b 0 = s.a := by
  refine Pq.ext' ?_ ?_ <;> simp only [Pq.at, Pq.add, Pq.sub, Pq.scale] <;> grind
theorem at_1 (s : Sq) : s.a.at s.b 1 = s.b := by
  refine Pq.ext' ?_ ?_ <;> simp only [Pq.at, Pq.add, Pq.sub, Pq.scale] <;> grind
/-- The parameter of the nearest point. -/
theorem near_at {s : Sq} {p : Pq} (hs : s.a ≠ s.b) : ∃ w, 0 ≤ w ∧ w ≤ 1 ∧ nearQ s p = s.a.at s.b w ∧ ∀ t, 0 ≤ t → t ≤ 1 → w * w - 2 * w * paramQ s p ≤ t * t - 2 * t * paramQ s p := by
  unfold nearQ
  rw [if_neg (by rw [chkQ_iff]; exact hs)]
  by_cases h0 : paramQ s p ≤ 0
  · rw [if_pos (cmpQ_le.2 h0)]
    refine ⟨0, by grind, by grind, (at_0 s).symm, fun t t0 t1 => ?_⟩
    have := sq_nonneg t
    have := Rat.mul_nonneg t0 (show 0 ≤ - paramQ s p by grind)
    grind
  · rw [if_neg (fun c => h0 (cmpQ_le.1 c))]
    by_cases h1 : 1 ≤ paramQ s p
    · rw [if_pos (by rw [cmpQ_ge]; exact h1)]
      refine ⟨1, by grind, by grind, (at_1 s).symm, fun t t0 t1 => ?_⟩
      have := sq_nonneg (1 - t)
      have := Rat.mul_nonneg (show 0 ≤ 1 - t by grind) (show 0 ≤ paramQ s p - 1 by grind)
      grind
    · rw [if_neg (by rw [cmpQ_ge]; exact h1)]
      refine ⟨paramQ s p, by grind, by grind, rfl, fun t t0 t1 => ?_⟩
      have := sq_nonneg (t - paramQ s p)
      grind
theorem near_on {s : Sq} {p : Pq} (hs : s.a ≠ s.b) : onQ s (nearQ s p) = true := by
  obtain ⟨w, h0, h1, h2, _⟩ := near_at (p := p) hs
  rw [on_iff]
  exact ⟨w, h0, h1, h2⟩
theorem near_le {s : Sq} {p q : Pq} (hs : s.a ≠ s.b) (hq : onQ s q = true) : ¬ p.dist q < p.dist (nearQ s p) := by
  obtain ⟨w, h0, h1, h2, h3⟩ := near_at (p := p) hs
  obtain ⟨t, t0, t1, rfl⟩ := (on_iff s q).1 hq
  have := h3 t t0 t1
  rw [h2, dist_at hs, dist_at hs]
  have := Rat.mul_nonneg (Rat.le_of_lt (dir_pos hs)) (show 0 ≤ (t * t - 2 * t * paramQ s p) - (w * w - 2 * w * paramQ s p) by grind)
  grind
theorem near_perp {s : Sq} {p : Pq} (hs : s.a ≠ s.b) (ha : nearQ s p ≠ s.a) (hb : nearQ s p ≠ s.b) : (p.sub (nearQ s p)).dot (s.b.sub s.a) = 0 := by
  unfold nearQ at ha hb ⊢
  rw [if_neg (by rw [chkQ_iff]; exact hs)] at ha hb ⊢
  by_cases h0 : cmpQ (paramQ s p) 0 ≤ 0
  · rw [if_pos h0] at ha; exact absurd rfl ha
  · rw [if_neg h0] at hb ⊢
    by_cases h1 : 0 ≤ cmpQ (paramQ s p) 1
    · rw [if_pos h1] at hb; exact absurd rfl hb
    · rw [if_neg h1]
      have := dir_pos hs
      have e : ((p.sub s.a).dot (s.b.sub s.a)) = paramQ s p * ((s.b.sub s.a).dot (s.b.sub s.a)) := by unfold paramQ; grind
      generalize paramQ s p = w at *
      simp only [Pq.dot, Pq.at, Pq.add, Pq.sub, Pq.scale] at *
      grind
end Go.Proofs.YtfdealobplcboaaGreat.Sx

/- What the statements on segments share: calls with numbers of different sizes, forks whose way is known, loops over lists of few elements. -/
set_option linter.unusedVariables false
set_option linter.unusedSimpArgs false
set_option maxRecDepth 100000
set_option maxHeartbeats 4000000
namespace Go.Proofs.YtfdealobplcboaaGreat.Sx

theorem son2_q {a : Sg} {S : Sq} {k : Nat} {b : Pt} {A : Pq} {l : Nat} (ha : IsS k a S) (hb : IsP l b A) (h : 16 * (k + l) + 16 ≤ 134217728) : Con Tryz.prog 23 [.v a.v, .v b.v] (.v (.bool (onQ S A))) :=
  son_q (ha.mono (Nat.le_add_right k l)) (hb.mono (Nat.le_add_left l k)) h
theorem son2_c {P' : Program} {E : Env} (hP : P' = Tryz.prog) (hE : E = Env.std) {hh : List Blk} {K : AV → List Blk → Prop} {an0 an1 an2 an3 : Bool} {au0 ad0 au1 ad1 au2 ad2 au3 ad3 : ByteArray} {S : Sq} {k : Nat} {bn0 bn1 : Bool} {bu0 bd0 bu1 bd1 : ByteArray} {A : Pq} {l : Nat} (ha : IsS k ⟨⟨⟨an0, au0, ad0⟩, ⟨an1, au1, ad1⟩⟩, ⟨⟨an2, au2, ad2⟩, ⟨an3, au3, ad3⟩⟩⟩ S) (hb : IsP l ⟨⟨bn0, bu0, bd0⟩, ⟨bn1, bu1, bd1⟩⟩ A) (h : 16 * (k + l) + 16 ≤ 134217728) (hk : ∀ r0 : Bool, r0 = onQ S A → K (.v (.bool r0)) hh) : CallTo P' hh 23 [.v (.agg #[.bool an0, .string au0, .string ad0, .bool an1, .string au1, .string ad1, .bool an2, .string au2, .string ad2, .bool an3, .string au3, .string ad3]), .v (.agg #[.bool bn0, .string bu0, .string bd0, .bool bn1, .string bu1, .string bd1])] K := by
  refine CallTo.con hP hE (son2_q ha hb h) ⟨rfl, rfl, trivial⟩ ?_
  have := hk _ rfl
  simp only [outV, outW, List.append_nil]
  exact this
theorem son2_p {a : Sg} {S : Sq} {k : Nat} {b : Pt} {A : Pq} {l : Nat} (ha : IsS k a S) (hb : IsP l b A) (h : 16 * (k + l) + 16 ≤ 134217728) : ∃ (r0 : Bool), r0 = onQ S A ∧ Con Tryz.prog 23 [.v a.v, .v b.v] (.v (.bool r0)) := ⟨_, rfl, son2_q ha hb h⟩
theorem all4 {Q : Nat → Prop} (h0 : Q 0) (h1 : Q 1) (h2 : Q 2) (h3 : Q 3) : ∀ i, i ≤ 3 → Q i := by
  intro i hi
  match i, hi with
  | 0, _ => exact h0
  | 1, _ => exact h1
  | 2, _ => exact h2
  | 3, _ => exact h3
theorem all6 {Q : Nat → Prop} (h0 : Q 0) (h1 : Q 1) (h2 : Q 2) (h3 : Q 3) (h4 : Q 4) (h5 : Q 5) : ∀ i, i ≤ 5 → Q i := by
  intro i hi
  match i, hi with
  | 0, _ => exact h0
  | 1, _ => exact h1
  | 2, _ => exact h2
  | 3, _ => exact h3
  | 4, _ => exact h4
  | 5, _ => exact h5
end Go.Proofs.YtfdealobplcboaaGreat.Sx

/- Arguments of a statement as they come: numbers, points, segments, boxes. -/
set_option linter.unusedVariables false
set_option linter.unusedSimpArgs false
set_option maxRecDepth 100000
namespace Go.Proofs.YtfdealobplcboaaGreat.Sx
open Go.ChangeShapes Go.WideShapes Go.ChangeAt Go.RowKit

section
variable {H : Type} {enc : TypeId × Value → H} {w : World} {base : Nat} {spare : Nat → Bool} {held : Bool}
theorem co_bool : Tryz.prog.cellsOf 4 = 1 := by kernel_rfl
theorem co_str : Tryz.prog.cellsOf 9 = 1 := by kernel_rfl
theorem co_R : Tryz.prog.cellsOf 23 = 3 := by kernel_rfl
theorem co_P : Tryz.prog.cellsOf 25 = 6 := by kernel_rfl
theorem co_S : Tryz.prog.cellsOf 27 = 12 := by kernel_rfl
theorem len3 {α : Type} {l : List α} (h : l.length = 3) : ∃ a b c, l = [a, b, c] := by
  match l, h with
  | [a, b, c], _ => exact ⟨a, b, c, rfl⟩
theorem trod_R {fuel : Nat} {cs : List Value} {x : DataW H × List MemPlace} (h : DataW.trod enc Tryz.prog w base spare held fuel 23 cs = some x) : ∃ r : R, cs = r.c := by
  obtain ⟨xs, n, rfl, _, hl, hx, hf⟩ := DataW.trod_struct Tryz.underlying23 h
  rw [co_R] at hl
  obtain ⟨a, b, c, rfl⟩ := len3 hl
  obtain ⟨y0, y1, y2, rfl⟩ := len3 hx
  have h0 : DataW.trod enc Tryz.prog w base spare held n 4 (([a, b, c].drop 0).take (Tryz.prog.cellsOf 4)) = some y0 := hf 0 _ rfl
  have h1 : DataW.trod enc Tryz.prog w base spare held n 9 (([a, b, c].drop 1).take (Tryz.prog.cellsOf 9)) = some y1 := hf 1 _ rfl
  have h2 : DataW.trod enc Tryz.prog w base spare held n 9 (([a, b, c].drop 2).take (Tryz.prog.cellsOf 9)) = some y2 := hf 2 _ rfl
  rw [co_bool] at h0
  rw [co_str] at h1 h2
  obtain ⟨u, hu, _⟩ := DataW.trod_bool Tryz.underlying4 h0
  obtain ⟨v, hv, _, _⟩ := DataW.trod_string Tryz.underlying9 h1
  obtain ⟨z, hz, _, _⟩ := DataW.trod_string Tryz.underlying9 h2
  simp at hu hv hz
  subst hu hv hz
  exact ⟨⟨u, v, z⟩, rfl⟩
theorem trod_P {fuel : Nat} {cs : List Value} {x : DataW H × List MemPlace} (h : DataW.trod enc Tryz.prog w base spare held fuel 25 cs = some x) : ∃ r : Pt, cs = r.c := by
  obtain ⟨xs, n, rfl, _, hl, hx, hf⟩ := DataW.trod_struct Tryz.underlying25 h
  rw [co_P] at hl
  have hx : xs.length = 2 := hx
  obtain ⟨y0, y1, rfl⟩ : ∃ a b, xs = [a, b] := by
    match xs, hx with
    | [a, b], _ => exact ⟨a, b, rfl⟩
  have h0 : DataW.trod enc Tryz.prog w base spare held n 23 ((cs.drop 0).take (Tryz.prog.cellsOf 23)) = some y0 := hf 0 _ rfl
  have h1 : DataW.trod enc Tryz.prog w base spare held n 23 ((cs.drop 3).take (Tryz.prog.cellsOf 23)) = some y1 := hf 1 _ rfl
  rw [co_R] at h0 h1
  obtain ⟨u, hu⟩ := trod_R h0
  obtain ⟨v, hv⟩ := trod_R h1
  refine ⟨⟨u, v⟩, ?_⟩
  have e : cs = (cs.drop 0).take 3 ++ (cs.drop 3).take 3 := by
    match cs, hl with
    | [a, b, c, d, e, f], _ => rfl
  rw [e, hu, hv]; rfl
theorem trod_S {fuel : Nat} {cs : List Value} {x : DataW H × List MemPlace} (h : DataW.trod enc Tryz.prog w base spare held fuel 27 cs = some x) : ∃ r : Sg, cs = r.c := by
  obtain ⟨xs, n, rfl, _, hl, hx, hf⟩ := DataW.trod_struct Tryz.underlying27 h
  rw [co_S] at hl
  have hx : xs.length = 2 := hx
  obtain ⟨y0, y1, rfl⟩ : ∃ a b, xs = [a, b] := by
    match xs, hx with
    | [a, b], _ => exact ⟨a, b, rfl⟩
  have h0 : DataW.trod enc Tryz.prog w base spare held n 25 ((cs.drop 0).take (Tryz.prog.cellsOf 25)) = some y0 := hf 0 _ rfl
  have h1 : DataW.trod enc Tryz.prog w base spare held n 25 ((cs.drop 6).take (Tryz.prog.cellsOf 25)) = some y1 := hf 1 _ rfl
  rw [co_P] at h0 h1
  obtain ⟨u, hu⟩ := trod_P h0
  obtain ⟨v, hv⟩ := trod_P h1
  refine ⟨⟨u, v⟩, ?_⟩
  have e : cs = (cs.drop 0).take 6 ++ (cs.drop 6).take 6 := by
    match cs, hl with
    | [a, b, c, d, e, f, a', b', c', d', e', f'], _ => rfl
  rw [e, hu, hv]; rfl
theorem okWide_agg {t : TypeId} {fs : Array Field} {r : Reach} {b0 : Nat} {v : Value} (ht : Tryz.prog.underlying t = some (.struct fs)) (h : Value.okWide Tryz.prog w r b0 t v) : ∃ cs, v = .agg cs := by
  unfold Value.okWide at h
  rw [ht] at h
  obtain ⟨cs, h, _⟩ := h
  exact ⟨cs, h⟩
theorem open_R {r : Reach} {b0 : Nat} {v : Value} {d : DataW H} {ps : List MemPlace} (hv : Value.okWide Tryz.prog w r b0 23 v) (hd : DataW.Trod enc Tryz.prog w base spare held 23 v d ps) : ∃ r : R, v = r.v := by
  obtain ⟨cs, rfl⟩ := okWide_agg Tryz.underlying23 hv
  obtain ⟨fuel, hf⟩ := hd
  obtain ⟨r, hr⟩ := trod_R hf
  exact ⟨r, congrArg Value.agg (Array.ext' hr)⟩
theorem open_P {r : Reach} {b0 : Nat} {v : Value} {d : DataW H} {ps : List MemPlace} (hv : Value.okWide Tryz.prog w r b0 25 v) (hd : DataW.Trod enc Tryz.prog w base spare held 25 v d ps) : ∃ r : Pt, v = r.v := by
  obtain ⟨cs, rfl⟩ := okWide_agg Tryz.underlying25 hv
  obtain ⟨fuel, hf⟩ := hd
  obtain ⟨r, hr⟩ := trod_P hf
  exact ⟨r, congrArg Value.agg (Array.ext' hr)⟩
theorem open_S {r : Reach} {b0 : Nat} {v : Value} {d : DataW H} {ps : List MemPlace} (hv : Value.okWide Tryz.prog w r b0 27 v) (hd : DataW.Trod enc Tryz.prog w base spare held 27 v d ps) : ∃ r : Sg, v = r.v := by
  obtain ⟨cs, rfl⟩ := okWide_agg Tryz.underlying27 hv
  obtain ⟨fuel, hf⟩ := hd
  obtain ⟨r, hr⟩ := trod_S hf
  exact ⟨r, congrArg Value.agg (Array.ext' hr)⟩
theorem trod_lt' {t : TypeId} {v : Value} {d : DataW H} {ps : List MemPlace} (h : DataW.Trod enc Tryz.prog w base spare held t v d ps) : ∀ x ∈ ps, x.block < w.heap.size := by
  obtain ⟨m, hm⟩ := h
  exact DataW.trod_lt m _ _ _ hm
end
theorem own' : ownKnob Tryz.prog.godebug = none := by kernel_rfl
theorem laidOut' : laidOutB Tryz.prog = true := by kernel_rfl
end Go.Proofs.YtfdealobplcboaaGreat.Sx
