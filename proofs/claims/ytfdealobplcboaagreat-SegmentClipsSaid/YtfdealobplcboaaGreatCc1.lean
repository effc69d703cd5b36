/- Part 1 of what the statement needs: an executor of Go texts, arithmetic, and contracts of the functions that are called. -/
import Derived.Test.YtfdealobplcboaaGreatK19
/- What lies within a box: the plain part of SegmentClips. No program stands here. -/
set_option linter.unusedVariables false
set_option linter.unusedSimpArgs false
set_option maxRecDepth 100000
set_option maxHeartbeats 4000000
namespace Go.Proofs.YtfdealobplcboaaGreat.Sx

theorem side_at (b : Bq) (s : Sq) (i : Nat) (t : Rat) : sideQ b i (s.a.at s.b t) = sideQ b i s.a + t * (sideQ b i s.b - sideQ b i s.a) := by
  unfold sideQ Pq.at Pq.add Pq.scale Pq.sub
  split <;> (simp only; grind)
theorem mul_lt_pos {x y d : Rat} (hd : 0 < d) : x * d ≤ y * d ↔ x ≤ y := by
  constructor
  · intro h
    refine Rat.not_lt.1 fun c => ?_
    have := Rat.mul_pos (show 0 < x - y by grind) hd
    grind
  · intro h
    have := Rat.mul_nonneg (show 0 ≤ y - x by grind) (Rat.le_of_lt hd)
    grind
theorem clip1_iff {fr go : Rat} {lh : Rat × Rat} {t : Rat} : (lh.1 ≤ t ∧ t ≤ lh.2 ∧ 0 ≤ fr + t * (go - fr)) ↔ ∃ lh', clip1 fr go lh = some lh' ∧ lh'.1 ≤ t ∧ t ≤ lh'.2 := by
  obtain ⟨l, h⟩ := lh
  obtain ⟨d, hd⟩ : ∃ d, d = go - fr := ⟨_, rfl⟩
  unfold clip1
  rw [← hd]
  simp only [cmpQ_lt, cmpQ_gt]
  by_cases c0 : d = 0
  · rw [if_pos (dvE_iff.2 c0), c0]
    by_cases c1 : fr < 0
    · rw [if_pos c1]; simp; intro _ _; grind
    · rw [if_neg c1]; simp; intro _ _; grind
  · rw [if_neg (fun e => c0 (dvE_iff.1 e))]
    obtain ⟨k, hk⟩ : ∃ k, k = -fr / d := ⟨_, rfl⟩
    have hkd : k * d = -fr := by rw [hk]; exact Rat.div_mul_cancel c0
    rw [← hk]
    by_cases c1 : 0 < d
    · have e : 0 ≤ fr + t * d ↔ k ≤ t := by
        rw [← mul_lt_pos (x := k) (y := t) c1, hkd]; grind
      rw [e]
      by_cases c2 : l < k
      · rw [if_pos ⟨c1, c2⟩]; simp; grind
      · rw [if_neg (fun e => c2 e.2), if_neg (fun e => by grind)]; simp; grind
    · have c1' : 0 < -d := by grind
      have e : 0 ≤ fr + t * d ↔ t ≤ k := by
        rw [← mul_lt_pos (x := t) (y := k) c1']; grind
      rw [e, if_neg (fun e => c1 e.1)]
      by_cases c2 : k < h
      · rw [if_pos ⟨by grind, c2⟩]; simp; grind
      · rw [if_neg (fun e => c2 e.2)]; simp; grind
theorem clip1_end {fr go : Rat} {lh lh' : Rat × Rat} (h : clip1 fr go lh = some lh') : (lh'.1 = lh.1 ∨ fr + lh'.1 * (go - fr) = 0) ∧ (lh'.2 = lh.2 ∨ fr + lh'.2 * (go - fr) = 0) := by
  unfold clip1 at h
  split at h
  · split at h
    · cases h
    · injection h with h; subst h; exact ⟨.inl rfl, .inl rfl⟩
  · rename_i c0
    have c0 : go - fr ≠ 0 := fun e => c0 (dvE_iff.2 e)
    have hkd : -fr / (go - fr) * (go - fr) = -fr := Rat.div_mul_cancel c0
    split at h
    · injection h with h; subst h; exact ⟨.inr (by simp only; rw [hkd]; grind), .inl rfl⟩
    · split at h
      · injection h with h; subst h; exact ⟨.inl rfl, .inr (by simp only; rw [hkd]; grind)⟩
      · injection h with h; subst h; exact ⟨.inl rfl, .inl rfl⟩
theorem clipL_iff (s : Sq) (b : Bq) (t : Rat) : ∀ (l : List Nat) (lh : Rat × Rat), (lh.1 ≤ t ∧ t ≤ lh.2 ∧ ∀ i ∈ l, 0 ≤ sideQ b i (s.a.at s.b t)) ↔ ∃ lh', clipL s b l lh = some lh' ∧ lh'.1 ≤ t ∧ t ≤ lh'.2
  | [], lh => by simp [clipL]
  | i :: l, lh => by
    have h1 := clip1_iff (fr := sideQ b i s.a) (go := sideQ b i s.b) (lh := lh) (t := t)
    rw [← side_at] at h1
    simp only [clipL]
    cases e : clip1 (sideQ b i s.a) (sideQ b i s.b) lh with
    | none =>
      rw [e] at h1
      simp at h1
      simp
      intro a b c
      exact absurd c (by have := h1 a b; grind)
    | some lh2 =>
      rw [e] at h1
      simp at h1
      simp only
      rw [← clipL_iff s b t l lh2]
      constructor
      · rintro ⟨a1, a2, a3⟩
        have := h1.1 ⟨a1, a2, a3 i (by simp)⟩
        exact ⟨this.1, this.2, fun j hj => a3 j (by simp [hj])⟩
      · rintro ⟨a1, a2, a3⟩
        have := h1.2 ⟨a1, a2⟩
        refine ⟨this.1, this.2.1, fun j hj => ?_⟩
        rcases List.mem_cons.1 hj with rfl | hj
        · exact this.2.2
        · exact a3 j hj
theorem clipL_end (s : Sq) (b : Bq) : ∀ (l : List Nat) (lh lh' : Rat × Rat), clipL s b l lh = some lh' → (lh'.1 = lh.1 ∨ ∃ i ∈ l, sideQ b i (s.a.at s.b lh'.1) = 0) ∧ (lh'.2 = lh.2 ∨ ∃ i ∈ l, sideQ b i (s.a.at s.b lh'.2) = 0)
  | [], lh, lh', h => by simp only [clipL] at h; injection h with h; subst h; exact ⟨.inl rfl, .inl rfl⟩
  | i :: l, lh, lh', h => by
    simp only [clipL] at h
    cases e : clip1 (sideQ b i s.a) (sideQ b i s.b) lh with
    | none => rw [e] at h; cases h
    | some lh2 =>
      rw [e] at h
      have h1 := clip1_end e
      have h2 := clipL_end s b l lh2 lh' h
      constructor
      · rcases h2.1 with h3 | ⟨j, hj, h3⟩
        · rcases h1.1 with h4 | h4
          · exact .inl (h3.trans h4)
          · exact .inr ⟨i, by simp, by rw [side_at, h3]; exact h4⟩
        · exact .inr ⟨j, by simp [hj], h3⟩
      · rcases h2.2 with h3 | ⟨j, hj, h3⟩
        · rcases h1.2 with h4 | h4
          · exact .inl (h3.trans h4)
          · exact .inr ⟨i, by simp, by rw [side_at, h3]; exact h4⟩
        · exact .inr ⟨j, by simp [hj], h3⟩
/-- Does a box contain a point? -/
def WithinP (b : Bq) (p : Pq) : Prop := b.lo.x ≤ p.x ∧ p.x ≤ b.hi.x ∧ b.lo.y ≤ p.y ∧ p.y ≤ b.hi.y
def EdgeP (b : Bq) (p : Pq) : Prop := WithinP b p ∧ (p.x = b.lo.x ∨ p.x = b.hi.x ∨ p.y = b.lo.y ∨ p.y = b.hi.y)
theorem within_side {b : Bq} {p : Pq} : (∀ i ∈ [0, 1, 2, 3], 0 ≤ sideQ b i p) ↔ WithinP b p := by
  simp [sideQ, WithinP]
  constructor
  · rintro ⟨h1, h2, h3, h4⟩; refine ⟨?_, ?_, ?_, ?_⟩ <;> grind
  · rintro ⟨h1, h2, h3, h4⟩; refine ⟨?_, ?_, ?_, ?_⟩ <;> grind
theorem edge_side {b : Bq} {p : Pq} {i : Nat} (h : sideQ b i p = 0) (hi : i ∈ [0, 1, 2, 3]) (hw : WithinP b p) : EdgeP b p := by
  refine ⟨hw, ?_⟩
  simp at hi
  rcases hi with rfl | rfl | rfl | rfl
  · left; simp [sideQ] at h; grind
  · right; left; simp [sideQ] at h; grind
  · right; right; left; simp [sideQ] at h; grind
  · right; right; right; simp [sideQ] at h; grind
theorem at_at (s : Sq) (l h u : Rat) : (s.a.at s.b l).at (s.a.at s.b h) u = s.a.at s.b (l + u * (h - l)) := by
  unfold Pq.at Pq.add Pq.scale Pq.sub
  refine Pq.ext' ?_ ?_ <;> (simp only; grind)
theorem on_part {s : Sq} {l h : Rat} (hl : l ≤ h) (p : Pq) : OnS ⟨s.a.at s.b l, s.a.at s.b h⟩ p ↔ ∃ t, l ≤ t ∧ t ≤ h ∧ p = s.a.at s.b t := by
  constructor
  · rintro ⟨u, h0, h1, e⟩
    refine ⟨l + u * (h - l), ?_, ?_, by rw [e]; exact at_at s l h u⟩
    · have := Rat.mul_nonneg h0 (show 0 ≤ h - l by grind); grind
    · have := Rat.mul_nonneg (show 0 ≤ 1 - u by grind) (show 0 ≤ h - l by grind); grind
  · rintro ⟨t, h0, h1, e⟩
    by_cases c : l = h
    · have : t = l := by grind
      refine ⟨0, by decide, by decide, ?_⟩
      show p = (s.a.at s.b l).at (s.a.at s.b h) 0
      rw [at_at, e, this]; congr 1; grind
    · have hd : 0 < h - l := by grind
      have hne : h - l ≠ 0 := by grind
      obtain ⟨u, hu⟩ : ∃ u, u = (t - l) / (h - l) := ⟨_, rfl⟩
      have hud : u * (h - l) = t - l := by rw [hu]; exact Rat.div_mul_cancel hne
      have hdi := div_in (n := t - l) hd
      rw [← hu] at hdi
      refine ⟨u, hdi.1.2 (by grind), hdi.2.2 (by grind), ?_⟩
      show p = (s.a.at s.b l).at (s.a.at s.b h) u
      rw [at_at, hud, e]; congr 1; grind
/-- The statement, on one point: it lies on the segment and in the box exactly if it lies on the part. -/
theorem clip_on {s : Sq} {b : Bq} (he : clipE s b = 0) (p : Pq) : OnS s p ∧ WithinP b p ↔ ∃ c, clipR s b = some c ∧ OnS c p := by
  unfold clipR
  rw [if_neg (by rw [he]; simp)]
  constructor
  · rintro ⟨⟨t, h0, h1, e⟩, hw⟩
    have hs := (clipL_iff s b t [0, 1, 2, 3] (0, 1)).1 ⟨h0, h1, within_side.2 (by rw [← e]; exact hw)⟩
    obtain ⟨lh, e1, e2, e3⟩ := hs
    rw [e1]
    unfold clipK
    simp only [cmpQ_gt]
    rw [if_neg (by grind)]
    exact ⟨_, rfl, (on_part (by grind) p).2 ⟨t, e2, e3, e⟩⟩
  · rintro ⟨c, hc, hp⟩
    cases e : clipL s b [0, 1, 2, 3] (0, 1) with
    | none => rw [e] at hc; cases hc
    | some lh =>
      rw [e] at hc
      unfold clipK at hc
      simp only [cmpQ_gt] at hc
      split at hc
      · cases hc
      · rename_i g
        injection hc with hc
        subst hc
        obtain ⟨t, h0, h1, e1⟩ := (on_part (by grind) p).1 hp
        have := (clipL_iff s b t [0, 1, 2, 3] (0, 1)).2 ⟨lh, e, h0, h1⟩
        exact ⟨⟨t, this.1, this.2.1, e1⟩, by rw [e1]; exact within_side.1 this.2.2⟩
/-- The ends of the part. -/
theorem clip_ends {s c : Sq} {b : Bq} (he : clipE s b = 0) (hc : clipR s b = some c) : (OnS s c.a ∧ (c.a = s.a ∨ EdgeP b c.a)) ∧ (OnS s c.b ∧ (c.b = s.b ∨ EdgeP b c.b)) := by
  have ha := (clip_on he c.a).2 ⟨c, hc, at_on.1⟩
  have hb := (clip_on he c.b).2 ⟨c, hc, at_on.2⟩
  refine ⟨⟨ha.1, ?_⟩, ⟨hb.1, ?_⟩⟩
  all_goals
    unfold clipR at hc
    rw [if_neg (by rw [he]; simp)] at hc
    cases e : clipL s b [0, 1, 2, 3] (0, 1) with
    | none => rw [e] at hc; cases hc
    | some lh =>
      rw [e] at hc
      have hc : (if 0 < cmpQ lh.1 lh.2 then none else some (Sq.mk (s.a.at s.b lh.1) (s.a.at s.b lh.2))) = some c := hc
      split at hc
      · cases hc
      · injection hc with hc
        have hen := clipL_end s b _ _ _ e
        subst hc
        first
          | (rcases hen.1 with h | ⟨i, hi, h⟩
             · left; show s.a.at s.b lh.1 = s.a; rw [h]; exact at_0 s
             · right; exact edge_side h hi ha.2)
          | (rcases hen.2 with h | ⟨i, hi, h⟩
             · left; show s.a.at s.b lh.2 = s.b; rw [h]; exact at_1 s
             · right; exact edge_side h hi hb.2)
end Go.Proofs.YtfdealobplcboaaGreat.Sx

/- The extreme one of numbers; boxes and points. -/
set_option linter.unusedVariables false
set_option linter.unusedSimpArgs false
set_option maxRecDepth 100000
set_option maxHeartbeats 8000000
namespace Go.Proofs.YtfdealobplcboaaGreat.Sx

def exR (sg : Int) : R → List R → R
  | o, [] => o
  | o, r :: l => exR sg (if cmpQ r.q o.q = sg then r else o) l
theorem exR_is {k : Nat} {sg : Int} : ∀ {o : R} {l : List R}, Is k o o.q → (∀ r ∈ l, Is k r r.q) → Is k (exR sg o l) (exR sg o l).q
  | o, [], h, _ => h
  | o, r :: l, h, hl => by
    unfold exR
    refine exR_is ?_ (fun x hx => hl x (by simp [hx]))
    split
    · exact hl r (by simp)
    · exact h
theorem exR_min : ∀ {o : R} {l : List R}, 0 ≤ (exR (-1) o l).q ↔ 0 ≤ o.q ∧ ∀ r ∈ l, 0 ≤ r.q
  | o, [] => by simp [exR]
  | o, r :: l => by
    unfold exR
    rw [exR_min]
    by_cases c : cmpQ r.q o.q = -1
    · have := (cmpQ_lt (x := r.q) (y := o.q)).1 (by omega)
      rw [if_pos c]
      constructor
      · rintro ⟨h1, h2⟩
        refine ⟨by grind, fun x hx => ?_⟩
        rcases List.mem_cons.1 hx with rfl | hx
        · exact h1
        · exact h2 x hx
      · rintro ⟨h1, h2⟩
        exact ⟨h2 r (by simp), fun x hx => h2 x (by simp [hx])⟩
    · have : ¬ r.q < o.q := fun h => by
        have h1 := cmpQ_lt.2 h
        have h2 := cmpQ_rng r.q o.q
        omega
      rw [if_neg c]
      constructor
      · rintro ⟨h1, h2⟩
        refine ⟨h1, fun x hx => ?_⟩
        rcases List.mem_cons.1 hx with rfl | hx
        · grind
        · exact h2 x hx
      · rintro ⟨h1, h2⟩
        exact ⟨h1, fun x hx => h2 x (by simp [hx])⟩
theorem exR_step {sg : Int} {o : R} {l : List R} {i : Nat} (z : R) (h : i < l.length) : exR sg o (l.drop i) = exR sg (if cmpQ (l.getD i z).q o.q = sg then l.getD i z else o) (l.drop (i + 1)) := by
  rw [drop_get z h]; rfl
theorem extreme_con {k : Nat} (sg : Int) (x : R) (xs : List R) (hk : k + k ≤ 134217728) (h : ∀ r ∈ x :: xs, Is k r r.q) (hl : xs.length ≤ 100000) : Con Tryz.prog 115 [.v (.int .i64 sg), .ro cR (x :: xs)] (.v (exR sg x xs).v) := by
  obtain ⟨res, hr⟩ : ∃ r, r = exR sg x xs := ⟨_, rfl⟩
  rw [← hr]
  obtain ⟨L, hL⟩ : ∃ L, L = x :: xs := ⟨_, rfl⟩
  rw [← hL] at h ⊢
  have hlen : L.length = xs.length + 1 := by rw [hL]; rfl
  have h0 : L.getD 0 ⟨false, ⟨#[]⟩, ⟨#[]⟩⟩ = x := by rw [hL]; rfl
  have hxs : ∀ i : Nat, L.drop (i + 1) = xs.drop i := fun i => by rw [hL]; rfl
  obtain ⟨i0, hi0⟩ : ∃ i : Int, i = 0 := ⟨_, rfl⟩
  have hinv0 : 0 ≤ i0 ∧ i0 ≤ (L.length : Int) - 1 ∧ exR sg x (xs.drop i0.toNat) = res ∧ Is k x x.q := by
    subst hi0
    exact ⟨by omega, by omega, by rw [hr]; rfl, h x (by rw [hL]; simp)⟩
  have hn0 : Env.std.inb 0 (Env.std.len R L) := by rw [s_inb, s_len]; omega
  have hn1 : Env.std.rng 1 (Env.std.len R L) (Env.std.len R L) := by rw [s_rng, s_len]; omega
  refine Con.of ttOk mixed Tryz.func115 {} .nil 0 (by kernel_rfl) (fun P' E hP hE => ?_)
  cbv
  refine Need.mk (by subst hE; exact hn0) ?_
  cbv
  refine Need.mk (by subst hE; exact hn1) ?_
  cbv
  refine LoopTo.by (ι := Int × R) (fun y => [(14, .v (.int .i64 y.1))]) (fun y => [(3, .cells y.2.av 23)]) (fun y => 0 ≤ y.1 ∧ y.1 ≤ (L.length : Int) - 1 ∧ exR sg y.2 (xs.drop y.1.toNat) = res ∧ Is k y.2 y.2.q) (fun y => ((L.length : Int) - y.1).toNat) (i0, x) [] hinv0 ?_ ?_
  · cbv
    subst hE
    have hg : Env.std.get R L 0 ⟨false, ⟨#[]⟩, ⟨#[]⟩⟩ = x := h0
    and_intros
    all_goals first
      | rfl
      | exact True.intro
      | (simp; done)
      | exact congrArg (fun y : R => AV.v (Value.bool y.neg)) hg
      | exact congrArg (fun y : R => AV.v (Value.string y.num)) hg
      | exact congrArg (fun y : R => AV.v (Value.string y.den)) hg
      | exact congrArg (fun y : R => Value.bool y.neg) hg
      | exact congrArg (fun y : R => Value.string y.num) hg
      | exact congrArg (fun y : R => Value.string y.den) hg
      | exact congrArg (fun x => Value.int .i64 x) hi0.symm
      | exact congrArg (fun x => AV.v (Value.int .i64 x)) hi0.symm
      | (trace_state; fail)
  · rintro ⟨i, o⟩ hi
    have h1 : 0 ≤ i := hi.1
    have h2 : i ≤ (L.length : Int) - 1 := hi.2.1
    have h3 : exR sg o (xs.drop i.toNat) = res := hi.2.2.1
    have ho : Is k o o.q := hi.2.2.2
    clear hi hinv0
    cbv
    refine fork.mk ?_ ?_
    · intro g1
      have hlt : i < (L.length : Int) - 1 := by subst hE; exact of_decide_eq_true (show decide (i < Env.std.sb (Env.std.len R L) 1) = true from g1)
      have hst := exR_step (sg := sg) (o := o) (l := xs) (i := i.toNat) ⟨false, ⟨#[]⟩, ⟨#[]⟩⟩ (by omega)
      rw [h3] at hst
      have e1 : (1 + i).toNat = i.toNat + 1 := by omega
      have hget0 : Env.std.get R L (Env.std.ad 1 i) ⟨false, ⟨#[]⟩, ⟨#[]⟩⟩ = xs.getD i.toNat ⟨false, ⟨#[]⟩, ⟨#[]⟩⟩ := by
        rw [s_get, s_ad, e1, hL]; rfl
      have hin : Env.std.inb i (Env.std.sb (Env.std.len R L) 1) := by rw [s_inb, s_sb, s_len]; exact ⟨h1, hlt⟩
      refine exVar (xs.getD i.toNat ⟨false, ⟨#[]⟩, ⟨#[]⟩⟩) ?_
      intro p hp
      rw [← hp] at hst hget0
      have hpk : Is k p p.q := by
        refine h p ?_
        rw [hp, hL, List.getD_eq_getElem?_getD, List.getElem?_eq_getElem (by omega)]
        exact List.mem_cons_of_mem _ (List.getElem_mem _)
      refine exVar (i + 1) ?_
      intro j hj
      have hj0 : Env.std.ib .add .i64 i 1 = j := by rw [s_add, w64 (by omega) (by omega), hj]
      have hj1 : j.toNat = i.toNat + 1 := by omega
      have hmu : ((L.length : Int) - j).toNat < ((L.length : Int) - i).toNat := by omega
      have hj2 : 0 ≤ j := by omega
      have hj3 : j ≤ (L.length : Int) - 1 := by omega
      rw [← hj1] at hst
      clear hp
      cbv
      refine Need.mk (by subst hE; exact hin) ?_
      have hpk' : Is k (E.get R L (E.ad 1 i) ⟨false, ⟨#[]⟩, ⟨#[]⟩⟩) p.q := by subst hE; rw [hget0]; exact hpk
      cbv
      refine cmp_c hP hE hpk' ho (by omega) ?_
      intro c ec
      cbv
      refine fork.mk ?_ ?_
      · intro g2
        have hc : cmpQ p.q o.q = sg := by subst hE; rw [← ec]; exact of_decide_eq_true (show decide (c = sg) = true from g2)
        rw [if_pos hc] at hst
        cbv
        refine ⟨(j, p), [], ⟨hj2, hj3, hst.symm, hpk⟩, hmu, ?_⟩
        cbv
        subst hE
        and_intros
        all_goals first
          | rfl
          | exact True.intro
          | (simp; done)
          | exact congrArg (fun y : R => AV.v (Value.bool y.neg)) hget0
          | exact congrArg (fun y : R => AV.v (Value.string y.num)) hget0
          | exact congrArg (fun y : R => AV.v (Value.string y.den)) hget0
          | exact congrArg (fun x => AV.v (Value.int .i64 x)) hj0
          | (trace_state; fail)
      · intro g2
        have hc : ¬ cmpQ p.q o.q = sg := by subst hE; rw [← ec]; exact of_decide_eq_false (show decide (c = sg) = false from g2)
        rw [if_neg hc] at hst
        cbv
        refine ⟨(j, o), [], ⟨hj2, hj3, hst.symm, ho⟩, hmu, ?_⟩
        cbv
        subst hE
        and_intros
        all_goals first
          | rfl
          | exact True.intro
          | (simp; done)
          | exact congrArg (fun x => AV.v (Value.int .i64 x)) hj0
          | (trace_state; fail)
    · intro g1
      have hge : ¬ i < (L.length : Int) - 1 := by subst hE; exact of_decide_eq_false (show decide (i < Env.std.sb (Env.std.len R L) 1) = false from g1)
      have e : o = res := by rw [← h3, List.drop_eq_nil_of_le (by omega)]; rfl
      cbv
      rw [e]
instance (b : Bq) (p : Pq) : Decidable (WithinP b p) := by unfold WithinP; infer_instance
instance (b : Bq) (p : Pq) : Decidable (EdgeP b p) := by unfold EdgeP; infer_instance
def withinQ (b : Bq) (p : Pq) : Bool := decide (WithinP b p)
def edgeQ (b : Bq) (p : Pq) : Bool := decide (EdgeP b p)
theorem Is.self {k : Nat} {a : R} {x : Rat} (h : Is k a x) : Is k a a.q := by rw [h.q]; exact h
theorem withinQ_iff {B : Bq} {A : Pq} : withinQ B A = true ↔ 0 ≤ A.x - B.lo.x ∧ 0 ≤ A.y - B.lo.y ∧ 0 ≤ B.hi.x - A.x ∧ 0 ≤ B.hi.y - A.y := by
  unfold withinQ
  rw [decide_eq_true_iff]
  unfold WithinP
  constructor
  · rintro ⟨h1, h2, h3, h4⟩; refine ⟨?_, ?_, ?_, ?_⟩ <;> grind
  · rintro ⟨h1, h2, h3, h4⟩; refine ⟨?_, ?_, ?_, ?_⟩ <;> grind
theorem within_q {a : Bx} {B : Bq} {k : Nat} {b : Pt} {A : Pq} {l : Nat} (ha : IsB k a B) (hb : IsP l b A) (h : 8 * (k + l + 1) ≤ 134217728) : Con Tryz.prog 41 [.v a.v, .v b.v] (.v (.bool (withinQ B A))) := by
  obtain ⟨⟨⟨an0, au0, ad0⟩, ⟨an1, au1, ad1⟩⟩, ⟨⟨an2, au2, ad2⟩, ⟨an3, au3, ad3⟩⟩⟩ := a
  have halo : IsP k ⟨⟨an0, au0, ad0⟩, ⟨an1, au1, ad1⟩⟩ B.lo := ha.lo
  have hahi : IsP k ⟨⟨an2, au2, ad2⟩, ⟨an3, au3, ad3⟩⟩ B.hi := ha.hi
  have halox : Is k ⟨an0, au0, ad0⟩ B.lo.x := ha.lo.x
  have haloy : Is k ⟨an1, au1, ad1⟩ B.lo.y := ha.lo.y
  have hahix : Is k ⟨an2, au2, ad2⟩ B.hi.x := ha.hi.x
  have hahiy : Is k ⟨an3, au3, ad3⟩ B.hi.y := ha.hi.y
  obtain ⟨⟨bn0, bu0, bd0⟩, ⟨bn1, bu1, bd1⟩⟩ := b
  have hbx : Is l ⟨bn0, bu0, bd0⟩ A.x := hb.x
  have hby : Is l ⟨bn1, bu1, bd1⟩ A.y := hb.y
  obtain ⟨r0, e0⟩ : ∃ r, r = withinQ B A := ⟨_, rfl⟩
  rw [← e0]
  obtain ⟨c1, ec1, hc1, kc1⟩ := vsub_p hb halo (by omega)
  obtain ⟨c2, ec2, hc2, kc2⟩ := vsub_p hahi hb (by omega)
  have hc1x := hc1.x
  have hc1y := hc1.y
  have hc2x := hc2.x
  have hc2y := hc2.y
  refine Con.of ttOk mixed Tryz.func41 { ord := [(1, (.op 0 (.op 1 (.op 2 (.op 4 (.op 5 (.op 6 (.br 3 (.br 7 (.br 8 (.op 9 (.op 10 (.op 11 .nil))) (.br 9 (.op 8 (.op 10 (.op 11 .nil))) .stop)) (.br 8 (.br 7 (.op 9 (.op 10 (.op 11 .nil))) (.br 9 (.op 7 (.op 10 (.op 11 .nil))) .stop)) (.br 9 (.br 7 (.op 8 (.op 10 (.op 11 .nil))) (.br 8 (.op 7 (.op 10 (.op 11 .nil))) .stop)) .stop))) (.br 8 (.br 3 (.br 7 (.op 9 (.op 10 (.op 11 .nil))) (.br 9 (.op 7 (.op 10 (.op 11 .nil))) .stop)) (.br 9 (.op 3 (.op 7 (.op 10 (.op 11 .nil)))) .stop)) (.br 9 (.br 3 (.br 7 (.op 8 (.op 10 (.op 11 .nil))) (.br 8 (.op 7 (.op 10 (.op 11 .nil))) .stop)) (.br 8 (.op 3 (.op 7 (.op 10 (.op 11 .nil)))) .stop)) .stop))))))))))] } .nil 0 (by kernel_rfl) (fun P' E hP hE => ?_)
  cbv
  refine DrawTo.byU [(5, .p 4 0), (6, .p 5 0)] [.cells c1.av 25, .cells c2.av 25] ?_ ?_
  · cbv
    repeat' first
      | exact True.intro
      | (refine Both.mk ?_ ?_ <;> cbv)
      | (refine CallTo.w hP hE kc1 ⟨rfl, rfl, trivial⟩ ?_; cbv)
      | (refine CallTo.w hP hE kc2 ⟨rfl, rfl, trivial⟩ ?_; cbv)
      | (simp only [and_self]; done)
  cbv
  have hs : ∀ r ∈ [c1.x, c1.y, c2.x, c2.y], Is (k + l + 1) r r.q := by
    intro r hr
    simp at hr
    rcases hr with rfl | rfl | rfl | rfl
    · exact (hc1x.self).mono (by omega)
    · exact (hc1y.self).mono (by omega)
    · exact (hc2x.self).mono (by omega)
    · exact (hc2y.self).mono (by omega)
  have ke := extreme_con (-1) c1.x [c1.y, c2.x, c2.y] (by omega) hs (by simp)
  have hmin := @exR_min c1.x [c1.y, c2.x, c2.y]
  have hri := exR_is (sg := -1) (hs c1.x (by simp)) (fun r hr => hs r (List.mem_cons_of_mem _ hr))
  refine exVar (exR (-1) c1.x [c1.y, c2.x, c2.y]) ?_
  intro r er
  rw [← er] at ke hmin hri
  refine CallTo.w hP hE ke ⟨rfl, ⟨cR_ok, rfl, rfl, by simp⟩, trivial⟩ ?_
  cbv
  refine sign_c hP hE hri (by omega) ?_
  intro m em
  cbv
  subst hE
  have hm : (0 ≤ m) ↔ withinQ B A = true := by
    rw [em, cmpQ_ge, hmin, withinQ_iff]
    simp
    rw [hc1x.q, hc1y.q, hc2x.q, hc2y.q]
    simp [Pq.sub]
  refine congrArg Value.bool ?_
  rw [e0]
  show decide (m ≥ 0) = _
  rw [Bool.eq_iff_iff, decide_eq_true_iff]
  exact hm
theorem within_c {P' : Program} {E : Env} (hP : P' = Tryz.prog) (hE : E = Env.std) {hh : List Blk} {K : AV → List Blk → Prop} {an0 an1 an2 an3 : Bool} {au0 ad0 au1 ad1 au2 ad2 au3 ad3 : ByteArray} {B : Bq} {k : Nat} {bn0 bn1 : Bool} {bu0 bd0 bu1 bd1 : ByteArray} {A : Pq} {l : Nat} (ha : IsB k ⟨⟨⟨an0, au0, ad0⟩, ⟨an1, au1, ad1⟩⟩, ⟨⟨an2, au2, ad2⟩, ⟨an3, au3, ad3⟩⟩⟩ B) (hb : IsP l ⟨⟨bn0, bu0, bd0⟩, ⟨bn1, bu1, bd1⟩⟩ A) (h : 8 * (k + l + 1) ≤ 134217728) (hk : ∀ r0 : Bool, r0 = withinQ B A → K (.v (.bool r0)) hh) : CallTo P' hh 41 [.v (.agg #[.bool an0, .string au0, .string ad0, .bool an1, .string au1, .string ad1, .bool an2, .string au2, .string ad2, .bool an3, .string au3, .string ad3]), .v (.agg #[.bool bn0, .string bu0, .string bd0, .bool bn1, .string bu1, .string bd1])] K := by
  refine CallTo.con hP hE (within_q ha hb h) ⟨rfl, rfl, trivial⟩ ?_
  have := hk _ rfl
  simp only [outV, outW, List.append_nil]
  exact this
theorem within_p {a : Bx} {B : Bq} {k : Nat} {b : Pt} {A : Pq} {l : Nat} (ha : IsB k a B) (hb : IsP l b A) (h : 8 * (k + l + 1) ≤ 134217728) : ∃ (r0 : Bool), r0 = withinQ B A ∧ Con Tryz.prog 41 [.v a.v, .v b.v] (.v (.bool r0)) := ⟨_, rfl, within_q ha hb h⟩
theorem ledge_q {a : Bx} {B : Bq} {k : Nat} {b : Pt} {A : Pq} {l : Nat} (ha : IsB k a B) (hb : IsP l b A) (h : 8 * (k + l + 1) ≤ 134217728) : Con Tryz.prog 42 [.v a.v, .v b.v] (.v (.bool (edgeQ B A))) := by
  obtain ⟨⟨⟨an0, au0, ad0⟩, ⟨an1, au1, ad1⟩⟩, ⟨⟨an2, au2, ad2⟩, ⟨an3, au3, ad3⟩⟩⟩ := a
  have halo : IsP k ⟨⟨an0, au0, ad0⟩, ⟨an1, au1, ad1⟩⟩ B.lo := ha.lo
  have hahi : IsP k ⟨⟨an2, au2, ad2⟩, ⟨an3, au3, ad3⟩⟩ B.hi := ha.hi
  have halox : Is k ⟨an0, au0, ad0⟩ B.lo.x := ha.lo.x
  have haloy : Is k ⟨an1, au1, ad1⟩ B.lo.y := ha.lo.y
  have hahix : Is k ⟨an2, au2, ad2⟩ B.hi.x := ha.hi.x
  have hahiy : Is k ⟨an3, au3, ad3⟩ B.hi.y := ha.hi.y
  obtain ⟨⟨bn0, bu0, bd0⟩, ⟨bn1, bu1, bd1⟩⟩ := b
  have hbx : Is l ⟨bn0, bu0, bd0⟩ A.x := hb.x
  have hby : Is l ⟨bn1, bu1, bd1⟩ A.y := hb.y
  obtain ⟨r0, e0⟩ : ∃ r, r = edgeQ B A := ⟨_, rfl⟩
  rw [← e0]
  have hed : edgeQ B A = (withinQ B A && (decide (A.x = B.lo.x) || (decide (A.x = B.hi.x) || (decide (A.y = B.lo.y) || decide (A.y = B.hi.y))))) := by
    rw [Bool.eq_iff_iff]
    unfold edgeQ withinQ
    rw [decide_eq_true_iff]
    simp only [Bool.and_eq_true, Bool.or_eq_true, decide_eq_true_iff]
    exact Iff.rfl
  refine Con.of ttOk mixed Tryz.func42 {} .nil 0 (by kernel_rfl) (fun P' E hP hE => ?_)
  cbv
  refine within_c hP hE (by assumption) (by assumption) (by omega) ?_
  intro w ew
  cbv
  refine fork.mk ?_ ?_
  · intro g1
    cbv
    refine cmp_c hP hE (by assumption) (by assumption) (by omega) ?_
    intro c1 ec1
    cbv
    refine fork.mk ?_ ?_
    · intro g2
      cbv
      subst hE
      simp [Env.std] at g2
      rw [ec1, cmpQ_eq] at g2
      rw [e0, hed, ← ew, g1, g2]
      simp
    · intro g2
      cbv
      refine cmp_c hP hE (by assumption) (by assumption) (by omega) ?_
      intro c2 ec2
      cbv
      refine fork.mk ?_ ?_
      · intro g3
        cbv
        subst hE
        simp [Env.std] at g3
        rw [ec2, cmpQ_eq] at g3
        rw [e0, hed, ← ew, g1, g3]
        simp
      · intro g3
        cbv
        refine cmp_c hP hE (by assumption) (by assumption) (by omega) ?_
        intro c3 ec3
        cbv
        refine fork.mk ?_ ?_
        · intro g4
          cbv
          subst hE
          simp [Env.std] at g4
          rw [ec3, cmpQ_eq] at g4
          rw [e0, hed, ← ew, g1, g4]
          simp
        · intro g4
          cbv
          refine cmp_c hP hE (by assumption) (by assumption) (by omega) ?_
          intro c4 ec4
          cbv
          subst hE
          simp [Env.std] at g2 g3 g4
          rw [ec1, cmpQ_eq] at g2
          rw [ec2, cmpQ_eq] at g3
          rw [ec3, cmpQ_eq] at g4
          refine congrArg Value.bool ?_
          rw [e0, hed, ← ew, g1]
          simp [g2, g3, g4, Env.std, ec4, cmpQ_eq]
          rw [Bool.eq_iff_iff]; simp [cmpQ_eq]
  · intro g1
    cbv
    subst hE
    rw [e0, hed, ← ew, g1]
    rfl
theorem ledge_c {P' : Program} {E : Env} (hP : P' = Tryz.prog) (hE : E = Env.std) {hh : List Blk} {K : AV → List Blk → Prop} {an0 an1 an2 an3 : Bool} {au0 ad0 au1 ad1 au2 ad2 au3 ad3 : ByteArray} {B : Bq} {k : Nat} {bn0 bn1 : Bool} {bu0 bd0 bu1 bd1 : ByteArray} {A : Pq} {l : Nat} (ha : IsB k ⟨⟨⟨an0, au0, ad0⟩, ⟨an1, au1, ad1⟩⟩, ⟨⟨an2, au2, ad2⟩, ⟨an3, au3, ad3⟩⟩⟩ B) (hb : IsP l ⟨⟨bn0, bu0, bd0⟩, ⟨bn1, bu1, bd1⟩⟩ A) (h : 8 * (k + l + 1) ≤ 134217728) (hk : ∀ r0 : Bool, r0 = edgeQ B A → K (.v (.bool r0)) hh) : CallTo P' hh 42 [.v (.agg #[.bool an0, .string au0, .string ad0, .bool an1, .string au1, .string ad1, .bool an2, .string au2, .string ad2, .bool an3, .string au3, .string ad3]), .v (.agg #[.bool bn0, .string bu0, .string bd0, .bool bn1, .string bu1, .string bd1])] K := by
  refine CallTo.con hP hE (ledge_q ha hb h) ⟨rfl, rfl, trivial⟩ ?_
  have := hk _ rfl
  simp only [outV, outW, List.append_nil]
  exact this
theorem ledge_p {a : Bx} {B : Bq} {k : Nat} {b : Pt} {A : Pq} {l : Nat} (ha : IsB k a B) (hb : IsP l b A) (h : 8 * (k + l + 1) ≤ 134217728) : ∃ (r0 : Bool), r0 = edgeQ B A ∧ Con Tryz.prog 42 [.v a.v, .v b.v] (.v (.bool r0)) := ⟨_, rfl, ledge_q ha hb h⟩
end Go.Proofs.YtfdealobplcboaaGreat.Sx
