/- Part 23 of what the statement needs: an executor of Go texts, arithmetic, and contracts of the functions that are called. -/
import Derived.Test.YtfdealobplcboaaGreatCu7
import Derived.Test.YtfdealobplcboaaGreatCu8
import Derived.Test.YtfdealobplcboaaGreatCu9
import Derived.Test.YtfdealobplcboaaGreatCu22
set_option linter.unusedVariables false
set_option linter.unusedSimpArgs false
namespace Go.Proofs.YtfdealobplcboaaGreat.Sx
/-- The element of a list of points at a place. -/
def at' (l : List Pq) (i : Nat) : Pq := l.getD i Pq.zero
theorem at_set {l : List Pq} {i j : Nat} {p : Pq} (h : i < l.length) : at' (l.set i p) j = if i = j then p else at' l j := by
 unfold at'
 rw [List.getD_eq_getElem?_getD, List.getD_eq_getElem?_getD, List.getElem?_set]
 by_cases e : i = j
 ·subst e; simp [h]
 ·simp [e]
theorem at_mem {l : List Pq} {i : Nat} (h : i < l.length) : at' l i ∈ l := by
 unfold at'; rw [List.getD_eq_getElem?_getD, List.getElem?_eq_getElem h]; exact List.getElem_mem h
theorem mem_at {l : List Pq} {x : Pq} : x ∈ l ↔ ∃ i, i < l.length /\ at' l i = x := by
 constructor
 ·intro h
  obtain ⟨i, hi, e⟩ := List.mem_iff_getElem.1 h
  exact ⟨i, hi, by unfold at'; rw [List.getD_eq_getElem?_getD, List.getElem?_eq_getElem hi]; exact e⟩
 ·rintro ⟨i, hi, rfl⟩; exact at_mem hi
theorem at_map {l : List Pq} {i : Nat} (h : i < l.length) (z : Pt) : (l.map crP).getD i z = crP (at' l i) := by
 unfold at'
 rw [List.getD_eq_getElem?_getD, List.getD_eq_getElem?_getD, List.getElem?_map, List.getElem?_eq_getElem h]; rfl
theorem take_at {l : List Pq} {i : Nat} (h : i < l.length) : l.take (i + 1) = l.take i ++ [at' l i] := by
 unfold at'
 rw [List.take_add_one, List.getD_eq_getElem?_getD, List.getElem?_eq_getElem h]; rfl
/-- Two elements of a list change places. -/
def swp (l : List Pq) (i j : Nat) : List Pq := (l.set i (at' l j)).set j (at' l i)
theorem swp_len (l : List Pq) (i j : Nat) : (swp l i j).length = l.length := by unfold swp; simp
theorem swp_at {l : List Pq} {i j k : Nat} (hi : i < l.length) (hj : j < l.length) : at' (swp l i j) k = if j = k then at' l i else if i = k then at' l j else at' l k := by
 unfold swp
 rw [at_set (by simpa using hj), at_set hi]
theorem swp_mem {l : List Pq} {i j : Nat} (hi : i < l.length) (hj : j < l.length) (x : Pq) : x ∈ swp l i j ↔ x ∈ l := by
 rw [mem_at, mem_at, swp_len]
 constructor
 ·rintro ⟨k, hk, e⟩
  rw [swp_at hi hj] at e
  by_cases c1 : j = k
  ·rw [if_pos c1] at e; exact ⟨i, hi, e⟩
  ·rw [if_neg c1] at e
   by_cases c2 : i = k
   ·rw [if_pos c2] at e; exact ⟨j, hj, e⟩
   ·rw [if_neg c2] at e; exact ⟨k, hk, e⟩
 ·rintro ⟨k, hk, e⟩
  by_cases c1 : k = j
  ·refine ⟨i, hi, ?_⟩
   rw [swp_at hi hj]
   by_cases c : j = i
   ·rw [if_pos c, <- c, <- c1]; exact e
   ·rw [if_neg c, if_pos rfl, <- c1]; exact e
  ·by_cases c2 : k = i
   ·exact ⟨j, hj, by rw [swp_at hi hj, if_pos rfl, <- c2]; exact e⟩
   ·exact ⟨k, hk, by rw [swp_at hi hj, if_neg (fun c => c1 c.symm), if_neg (fun c => c2 c.symm)]; exact e⟩
/-- Insertion sort, a round of the outer loop: the first i ascend. -/
structure SortO (l0 l : List Pq) (i : Nat) : Prop where
 len : l.length = l0.length
 mem : ∀ x, x ∈ l ↔ x ∈ l0
 ord : ∀ p q, p < q -> q < i -> leP (at' l p) (at' l q)
/-- A round of the inner loop: but for the one at j, which is below those behind it, the first i + 1 ascend. -/
structure SortJ (l0 l : List Pq) (i j : Nat) : Prop where
 len : l.length = l0.length
 mem : ∀ x, x ∈ l ↔ x ∈ l0
 hj : j <= i
 hi : i < l0.length
 ord : ∀ p q, p < q -> q <= i -> p ≠ j -> q ≠ j -> leP (at' l p) (at' l q)
 abv : ∀ q, j < q -> q <= i -> leP (at' l j) (at' l q)
theorem SortO.start {l0 l : List Pq} {i : Nat} (h : SortO l0 l i) (hi : i < l0.length) : SortJ l0 l i i :=
 ⟨h.len, h.mem, Nat.le_refl _, hi, fun p q h1 h2 h3 h4 => h.ord p q h1 (by omega), fun q h1 h2 => by omega⟩
theorem SortJ.step {l0 l : List Pq} {i j : Nat} (h : SortJ l0 l i j) (h0 : 0 < j) (hc : cmpP (at' l j) (at' l (j - 1)) < 0) : SortJ l0 (swp l j (j - 1)) i (j - 1) := by
 have hjl : j < l.length := by have := h.len; have := h.hj; have := h.hi; omega
 have hjl' : j - 1 < l.length := by omega
 have hle : leP (at' l j) (at' l (j - 1)) := ltP_le hc
 refine ⟨by rw [swp_len]; exact h.len, fun x => by rw [swp_mem hjl hjl']; exact h.mem x, by have := h.hj; omega, h.hi, fun p q h1 h2 h3 h4 => ?_, fun q h1 h2 => ?_⟩
 ·rw [swp_at hjl hjl', swp_at hjl hjl', if_neg (c := j - 1 = p) (fun c => h3 c.symm), if_neg (c := j - 1 = q) (fun c => h4 c.symm)]
  by_cases c1 : j = p
  ·rw [if_pos c1, if_neg (by omega)]
   exact h.ord (j - 1) q (by omega) h2 (by omega) (by omega)
  ·rw [if_neg c1]
   by_cases c2 : j = q
   ·rw [if_pos c2]
    exact h.ord p (j - 1) (by omega) (by have := h.hj; omega) (by omega) (by omega)
   ·rw [if_neg c2]
    exact h.ord p q h1 h2 (fun e => c1 e.symm) (fun e => c2 e.symm)
 ·rw [swp_at hjl hjl', swp_at hjl hjl', if_pos rfl, if_neg (by omega)]
  by_cases c2 : j = q
  ·rw [if_pos c2]; exact hle
  ·rw [if_neg c2]; exact h.abv q (by omega) h2
theorem SortJ.stop {l0 l : List Pq} {i j : Nat} (h : SortJ l0 l i j) (hc : j = 0 \/ ¬ cmpP (at' l j) (at' l (j - 1)) < 0) : SortO l0 l (i + 1) := by
 refine ⟨h.len, h.mem, fun p q h1 h2 => ?_⟩
 by_cases c1 : p = j
 ·subst c1; exact h.abv q h1 (by omega)
 ·by_cases c2 : q = j
  ·subst c2
   have hc : ¬ cmpP (at' l q) (at' l (q - 1)) < 0 := by
    rcases hc with hc | hc
    ·omega
    ·exact hc
   have hle : leP (at' l (q - 1)) (at' l q) := Classical.byContradiction fun c => hc (ltP_iff.2 c)
   by_cases c3 : p = q - 1
   ·rw [c3]; exact hle
   ·exact leP_trans (h.ord p (q - 1) (by omega) (by have := h.hj; omega) c1 (by omega)) hle
  ·exact h.ord p q h1 (by omega) c1 c2
theorem SortO.first (l : List Pq) : SortO l l 1 := ⟨rfl, fun _ => Iff.rfl, fun p q h1 h2 => by omega⟩
theorem SortO.done {l0 l : List Pq} {i : Nat} (h : SortO l0 l i) (hi : l0.length <= i) : WS l := by
 rw [WS, List.pairwise_iff_getElem]
 intro p q hp hq hpq
 have := h.ord p q hpq (by have := h.len; omega)
 unfold at' at this
 rw [List.getD_eq_getElem?_getD, List.getD_eq_getElem?_getD, List.getElem?_eq_getElem hp, List.getElem?_eq_getElem hq] at this
 exact this
/-- Reverse, a round: what lies outside is turned. -/
structure RevI (l0 l : List Pq) (i : Nat) (j : Int) : Prop where
 len : l.length = l0.length
 sum : (i : Int) + j = (l0.length : Int) - 1
 le : (i : Int) <= j + 1
 out : ∀ k, k < l0.length -> (k < i \/ j < k) -> at' l k = at' l0 (l0.length - 1 - k)
 inn : ∀ k, i <= k -> (k : Int) <= j -> at' l k = at' l0 k
theorem at_ext {l l' : List Pq} (h : l.length = l'.length) (e : ∀ k, k < l.length -> at' l k = at' l' k) : l = l' := by
 apply List.ext_getElem h
 intro k h1 h2
 have := e k h1
 unfold at' at this
 rw [List.getD_eq_getElem?_getD, List.getD_eq_getElem?_getD, List.getElem?_eq_getElem h1, List.getElem?_eq_getElem h2] at this
 exact this
theorem at_rev {l : List Pq} {k : Nat} (h : k < l.length) : at' l.reverse k = at' l (l.length - 1 - k) := by
 unfold at'
 rw [List.getD_eq_getElem?_getD, List.getD_eq_getElem?_getD, List.getElem?_reverse h]
theorem RevI.first (l : List Pq) : RevI l l 0 ((l.length : Int) - 1) := ⟨rfl, by omega, by omega, fun k h1 h2 => by omega, fun _ _ _ => rfl⟩
theorem RevI.step {l0 l : List Pq} {i : Nat} {j : Int} (h : RevI l0 l i j) (hc : (i : Int) < j) : RevI l0 (swp l i j.toNat) (i + 1) (j - 1) := by
 have h1 := h.sum
 have h2 := h.len
 have hi : i < l.length := by omega
 have hj : j.toNat < l.length := by omega
 refine ⟨by rw [swp_len]; exact h.len, by omega, by omega, fun k hk ho => ?_, fun k h3 h4 => ?_⟩
 ·rw [swp_at hi hj]
  by_cases c1 : j.toNat = k
  ·rw [if_pos c1, h.inn i (by omega) (by omega)]; congr 1; omega
  ·rw [if_neg c1]
   by_cases c2 : i = k
   ·rw [if_pos c2, h.inn j.toNat (by omega) (by omega)]; congr 1; omega
   ·rw [if_neg c2]; exact h.out k hk (by omega)
 ·rw [swp_at hi hj, if_neg (by omega), if_neg (by omega)]; exact h.inn k (by omega) (by omega)
theorem RevI.done {l0 l : List Pq} {i : Nat} {j : Int} (h : RevI l0 l i j) (hc : ¬ (i : Int) < j) : l = l0.reverse := by
 refine at_ext (by rw [h.len, List.length_reverse]) (fun k hk => ?_)
 have h1 := h.sum
 have h2 := h.len
 have h3 := h.le
 rw [at_rev (by omega)]
 by_cases c : k < i \/ j < k
 ·exact h.out k (by omega) c
 ·rw [h.inn k (by omega) (by omega)]; congr 1; omega
/-- Compact, the first loop: no double so far. -/
structure CmpA (l : List Pq) (k : Nat) : Prop where
 pos : 1 <= k
 le : k <= l.length
 eq : dd (l.take k) = l.take k
theorem dd_take {l : List Pq} {k : Nat} (h : k < l.length) : dd (l.take (k + 1)) = ddS (dd (l.take k)) (at' l k) := by rw [take_at h, dd_snoc]
theorem dd_last_at {l : List Pq} {k : Nat} (h0 : 1 <= k) (h : k <= l.length) (p : Pq) : lastIs (dd (l.take k)) p = decide (cmpP p (at' l (k - 1)) = 0) := by
 obtain ⟨m, rfl⟩ : ∃ m, k = m + 1 := ⟨k - 1, by omega⟩
 unfold lastIs
 rw [take_at (by omega), dd_last]
 rfl
theorem CmpA.first {l : List Pq} (h : 2 <= l.length) : CmpA l 1 := by
 refine ⟨by omega, by omega, ?_⟩
 rw [take_at (by omega)]; rfl
theorem CmpA.step {l : List Pq} {k : Nat} (h : CmpA l k) (hk : k < l.length) (hc : ¬ at' l k = at' l (k - 1)) : CmpA l (k + 1) := by
 refine ⟨by omega, by omega, ?_⟩
 rw [dd_take hk, ddS, dd_last_at h.pos h.le, if_neg (by simpa [cmpP_eq] using hc), h.eq, take_at hk]
theorem CmpA.done {l : List Pq} {k : Nat} (h : CmpA l k) (hk : ¬ k < l.length) : dd l = l := by
 have := h.eq
 rwa [List.take_of_length_le (by omega)] at this
/-- The second loop: o points are looked at, k of them stay. -/
structure CmpB (l x : List Pq) (k o : Nat) : Prop where
 len : x.length = l.length
 pos : 1 <= k
 lt : k < o
 le : o <= l.length
 eq : x.take k = dd (l.take o)
 rest : ∀ t, o <= t + 1 -> at' x t = at' l t
theorem CmpA.turn {l : List Pq} {k : Nat} (h : CmpA l k) (hk : k < l.length) (hc : at' l k = at' l (k - 1)) : CmpB l l k (k + 1) := by
 refine ⟨rfl, h.pos, by omega, by omega, ?_, fun _ _ => rfl⟩
 rw [dd_take hk, ddS, dd_last_at h.pos h.le, if_pos (by simpa [cmpP_eq] using hc), h.eq]
theorem CmpB.same {l x : List Pq} {k o : Nat} (h : CmpB l x k o) (ho : o < l.length) (hc : at' x o = at' x (o - 1)) : CmpB l x k (o + 1) := by
 have h1 := h.lt
 have h2 := h.pos
 rw [h.rest o (by omega), h.rest (o - 1) (by omega)] at hc
 refine ⟨h.len, h.pos, by omega, by omega, ?_, fun t ht => h.rest t (by omega)⟩
 rw [dd_take ho, ddS, dd_last_at (by omega) h.le, if_pos (by simpa [cmpP_eq] using hc), h.eq]
theorem CmpB.more {l x : List Pq} {k o : Nat} (h : CmpB l x k o) (ho : o < l.length) (hc : ¬ at' x o = at' x (o - 1)) : CmpB l (x.set k (at' x o)) (k + 1) (o + 1) := by
 have h1 := h.lt
 have h2 := h.pos
 have h3 := h.len
 rw [h.rest o (by omega), h.rest (o - 1) (by omega)] at hc
 refine ⟨by simpa using h.len, by omega, by omega, by omega, ?_, fun t ht => ?_⟩
 ·rw [take_at (by simp; omega), at_set (by omega), if_pos rfl, List.take_set_of_le (by omega), h.eq, h.rest o (by omega), dd_take ho, ddS, dd_last_at (by omega) h.le, if_neg (by simpa [cmpP_eq] using hc)]
 ·rw [at_set (by omega), if_neg (by omega)]; exact h.rest t (by omega)
theorem CmpB.done {l x : List Pq} {k o : Nat} (h : CmpB l x k o) (ho : ¬ o < l.length) : x.take k = dd l := by
 rw [h.eq, List.take_of_length_le (by omega)]
end Go.Proofs.YtfdealobplcboaaGreat.Sx

set_option linter.unusedVariables false
set_option linter.unusedSimpArgs false
namespace Go.Proofs.YtfdealobplcboaaGreat.Sx
/-- The points of a segment that a list names, and its ends, in the segment's direction. -/
def cutsL (s : Sq) (l : List Pq) : List Pq := if 0 < cmpP s.a s.b then (setL (s.a :: s.b :: l.filter (onQ s))).reverse else setL (s.a :: s.b :: l.filter (onQ s))
def segsL (c : List Pq) : List Sq := List.zipWith Sq.mk c c.tail
def splitE (s : Sq) (n : Nat) : Int := if chkQ s ≠ 0 then 12 else if 1000 < n then 4 else 0
def splitL (s : Sq) (l : List Pq) : List Sq := if splitE s l.length = 0 then segsL (cutsL s l) else []
/-- The order along a segment. -/
def dirP (s : Sq) (p q : Pq) : Prop := if cmpP s.a s.b < 0 then ltP p q else ltP q p
theorem dirP_irr (s : Sq) (p : Pq) : ¬ dirP s p p := by unfold dirP; split <;> exact ltP_irr p
theorem dirP_trans {s : Sq} {p q r : Pq} (h : dirP s p q) (h' : dirP s q r) : dirP s p r := by
 unfold dirP at *
 split
 ·rename_i c; rw [if_pos c] at h h'; exact ltP_trans h h'
 ·rename_i c; rw [if_neg c] at h h'; exact ltP_trans h' h
theorem cuts_dir {s : Sq} (hs : chkQ s = 0) (l : List Pq) : (cutsL s l).Pairwise (dirP s) := by
 have hne : cmpP s.a s.b ≠ 0 := by
  intro h; unfold chkQ at hs; rw [if_pos h] at hs; cases hs
 unfold cutsL
 by_cases h : 0 < cmpP s.a s.b
 ·rw [if_pos h, List.pairwise_reverse]
  refine (setL_ss _).imp fun {p q} c => ?_
  unfold dirP; rw [if_neg (by omega)]; exact c
 ·rw [if_neg h]
  refine (setL_ss _).imp fun {p q} c => ?_
  unfold dirP; rw [if_pos (by omega)]; exact c
theorem mem_cuts {s : Sq} {l : List Pq} {x : Pq} : x ∈ cutsL s l ↔ x = s.a \/ x = s.b \/ (x ∈ l /\ onQ s x = true) := by
 have e : x ∈ cutsL s l ↔ x ∈ s.a :: s.b :: l.filter (onQ s) := by
  unfold cutsL
  split
  ·rw [List.mem_reverse, mem_setL]
  ·rw [mem_setL]
 rw [e]; simp [List.mem_filter]
theorem on_a (s : Sq) : onQ s s.a = true := by rw [on_iff]; exact ⟨0, by decide, by decide, by simp [Pq.at, Pq.add, Pq.scale, Pq.sub, Rat.mul_zero, Rat.add_zero]⟩
theorem on_b (s : Sq) : onQ s s.b = true := by
 rw [on_iff]
 refine ⟨1, by decide, by decide, Pq.ext' ?_ ?_⟩ <;> simp only [Pq.at, Pq.add, Pq.scale, Pq.sub] <;> grind
theorem on_dir {s : Sq} (hs : chkQ s = 0) {p : Pq} (h : onQ s p = true) : ¬ dirP s p s.a /\ ¬ dirP s s.b p := by
 have hne : cmpP s.a s.b ≠ 0 := by
  intro h; unfold chkQ at hs; rw [if_pos h] at hs; cases hs
 rw [on_iff, on_lex] at h
 obtain ⟨_, h1, h2⟩ := h
 unfold dirP
 unfold ordS at h1 h2
 by_cases c : 0 < cmpP s.a s.b
 ·rw [if_pos c] at h1 h2
  rw [if_neg (by omega), if_neg (by omega)]
  exact ⟨fun e => ltP_iff.1 e h2, fun e => ltP_iff.1 e h1⟩
 ·rw [if_neg c] at h1 h2
  rw [if_pos (by omega), if_pos (by omega)]
  exact ⟨fun e => ltP_iff.1 e h1, fun e => ltP_iff.1 e h2⟩
theorem cut_on {s : Sq} {l : List Pq} {x : Pq} (h : x ∈ cutsL s l) : onQ s x = true := by
 rcases mem_cuts.1 h with rfl | rfl | h
 ·exact on_a s
 ·exact on_b s
 ·exact h.2
theorem cuts_pos {s : Sq} (hs : chkQ s = 0) (l : List Pq) : 2 <= (cutsL s l).length := by
 have hne : s.a ≠ s.b := by
  intro h; unfold chkQ at hs; rw [if_pos (cmpP_eq.2 h)] at hs; cases hs
 have h1 : s.a ∈ cutsL s l := mem_cuts.2 (.inl rfl)
 have h2 : s.b ∈ cutsL s l := mem_cuts.2 (.inr (.inl rfl))
 match h : cutsL s l with
 | [] => rw [h] at h1; cases h1
 | [x] => rw [h] at h1 h2; simp at h1 h2; exact absurd (h1.trans h2.symm) hne
 | x :: y :: r => simp
theorem pw_at {R : Pq -> Pq -> Prop} {l : List Pq} (h : l.Pairwise R) {i j : Nat} (hij : i < j) (hj : j < l.length) : R (at' l i) (at' l j) := by
 have := (List.pairwise_iff_getElem.1 h) i j (by omega) hj hij
 unfold at'
 rw [List.getD_eq_getElem?_getD, List.getD_eq_getElem?_getD, List.getElem?_eq_getElem (by omega), List.getElem?_eq_getElem hj]
 exact this
theorem cuts_first {s : Sq} (hs : chkQ s = 0) (l : List Pq) : at' (cutsL s l) 0 = s.a := by
 have hp := cuts_pos hs l
 have hd := cuts_dir hs l
 obtain ⟨i, hi, e⟩ := mem_at.1 (mem_cuts.2 (.inl rfl) : s.a ∈ cutsL s l)
 by_cases h : i = 0
 ·rw [<- h]; exact e
 ·have h1 := pw_at hd (show 0 < i by omega) hi
  rw [e] at h1
  exact absurd h1 (on_dir hs (cut_on (at_mem (by omega)))).1
theorem cuts_last {s : Sq} (hs : chkQ s = 0) (l : List Pq) {k : Nat} (hk : k < (cutsL s l).length) : at' (cutsL s l) k = s.b ↔ k + 1 = (cutsL s l).length := by
 have hd := cuts_dir hs l
 obtain ⟨i, hi, e⟩ := mem_at.1 (mem_cuts.2 (.inr (.inl rfl)) : s.b ∈ cutsL s l)
 have hi2 : i + 1 = (cutsL s l).length := by
  apply Classical.byContradiction
  intro h
  have h1 := pw_at hd (show i < i + 1 by omega) (by omega)
  rw [e] at h1
  exact (on_dir hs (cut_on (at_mem (by omega)))).2 h1
 constructor
 ·intro h
  rcases Nat.lt_trichotomy k i with c | c | c
  ·have h1 := pw_at hd c hi
   rw [h, e] at h1
   exact absurd h1 (dirP_irr _ _)
  ·omega
  ·omega
 ·intro h
  have : k = i := by omega
  rw [this, e]
theorem segs_len (c : List Pq) : (segsL c).length = c.length - 1 := by unfold segsL; rw [List.length_zipWith, List.length_tail]; omega
theorem segs_get {c : List Pq} {k : Nat} (h : k + 1 < c.length) : (segsL c)[k]? = some ⟨at' c k, at' c (k + 1)⟩ := by
 unfold segsL at'
 rw [List.getElem?_zipWith, List.getElem?_tail, List.getD_eq_getElem?_getD, List.getD_eq_getElem?_getD, List.getElem?_eq_getElem (by omega : k < c.length), List.getElem?_eq_getElem h]
 rfl
theorem segs_take {c : List Pq} {k : Nat} (h : k + 1 < c.length) : segsL (c.take (k + 2)) = segsL (c.take (k + 1)) ++ [⟨at' c k, at' c (k + 1)⟩] := by
 apply List.ext_getElem?
 intro i
 rcases Nat.lt_trichotomy i k with hi | hi | hi
 ·rw [segs_get (by rw [List.length_take]; omega), List.getElem?_append_left (by rw [segs_len, List.length_take]; omega), segs_get (by rw [List.length_take]; omega)]
  unfold at'
  simp only [List.getD_eq_getElem?_getD, List.getElem?_take]
  rw [if_pos (by omega), if_pos (by omega), if_pos (by omega), if_pos (by omega)]
 ·subst hi
  rw [segs_get (by rw [List.length_take]; omega), List.getElem?_append_right (by rw [segs_len, List.length_take]; omega), segs_len, List.length_take]
  have e : i - (min (i + 1) c.length - 1) = 0 := by omega
  rw [e]
  unfold at'
  simp only [List.getD_eq_getElem?_getD, List.getElem?_take]
  rw [if_pos (by omega), if_pos (by omega)]
  rfl
 ·rw [List.getElem?_eq_none (by rw [segs_len, List.length_take]; omega), List.getElem?_eq_none (by rw [List.length_append, segs_len, List.length_take, List.length_singleton]; omega)]
theorem segs_one {c : List Pq} (h : 1 <= c.length) : segsL (c.take 1) = [] := by
 match c, h with
 | x :: r, _ => rfl
theorem segs_all {c : List Pq} {k : Nat} (h : c.length <= k) : segsL (c.take k) = segsL c := by rw [List.take_of_length_le h]
theorem ins_len (p : Pq) : ∀ m : List Pq, (insU p m).length <= m.length + 1
 | [] => Nat.le_refl _
 | x :: m => by
  unfold insU
  split
  ·simp
  ·split
   ·simp
   ·have := ins_len p m
    simp only [List.length_cons]; omega
theorem set_len : ∀ l : List Pq, (setL l).length <= l.length
 | [] => Nat.le_refl _
 | p :: l => by
  show (insU p (setL l)).length <= _
  have := ins_len p (setL l)
  have := set_len l
  simp only [List.length_cons]; omega
theorem cuts_len (s : Sq) (l : List Pq) : (cutsL s l).length <= l.length + 2 := by
 have h7 := List.length_filter_le (onQ s) l
 have h5 := set_len (s.a :: s.b :: l.filter (onQ s))
 have h8 : (cutsL s l).length = (setL (s.a :: s.b :: l.filter (onQ s))).length := by
  rw [cutsL]; split
  ·rw [List.length_reverse]
  ·rfl
 simp only [List.length_cons] at h5
 omega
end Go.Proofs.YtfdealobplcboaaGreat.Sx

set_option linter.unusedVariables false
set_option linter.unusedSimpArgs false
namespace Go.Proofs.YtfdealobplcboaaGreat.Sx
abbrev z0 : Pt := ⟨⟨false, ⟨#[]⟩, ⟨#[]⟩⟩, ⟨false, ⟨#[]⟩, ⟨#[]⟩⟩⟩
/-- The last loop: the pieces so far. -/
structure FinI (c : List Pq) (i L : Int) (out : List Sg) : Prop where
 h0 : 0 <= i
 h1 : i + 1 <= c.length
 eq : out = (segsL (c.take (i.toNat + 1))).map crS
 len : L = out.length
theorem FinI.first {c : List Pq} {i L : Int} {out : List Sg} (hc : 1 <= c.length) (hi : i = 0) (hL : L = 0) (ho : out = []) : FinI c i L out := by
 subst hi hL ho
 refine ⟨by omega, by omega, ?_, rfl⟩
 show _ = (segsL (c.take 1)).map crS
 rw [segs_one hc]; rfl
structure FinF (c : List Pq) (zs : List Pt) (K i L : Int) (out : List Sg) (j : Int) (w1 w2 : Pt) (L' : Int) (out' : List Sg) : Prop where
 in1 : 0 <= i /\ i < K
 add : Env.std.ib .add .i64 i 1 = j
 in2 : 0 <= j /\ j < K
 g1 : Env.std.get Pt zs i z0 = w1
 g2 : Env.std.get Pt zs j z0 = w2
 app : Env.std.app Sg (Env.std.tk Sg out L) [⟨w1, w2⟩] = out'
 fit : Env.std.fits (Env.std.ad L (Env.std.len Sg [⟨w1, w2⟩])) 160
 len : Env.std.ad L (Env.std.len Sg [⟨w1, w2⟩]) = L'
 inv : FinI c j L' out'
 mu : ∀ n : Int, i < n -> (n - j).toNat < (n - i).toNat
theorem finF_ex {c : List Pq} {zs : List Pt} (hz : ∀ i, i < c.length -> zs.getD i z0 = crP (at' c i)) {K : Int} (hK : K = c.length) (hl : c.length <= 4096) {i L : Int} {out : List Sg} (h : FinI c i L out) (hi : i + 1 < K) : ∃ j w1 w2 L' out', FinF c zs K i L out j w1 w2 L' out' := by
 have h0 := h.h0
 have e : (i + 1).toNat = i.toNat + 1 := by omega
 have hlen := h.len
 have hol : out.length <= 4096 := by rw [h.eq, List.length_map, segs_len, List.length_take]; omega
 refine ⟨i + 1, crP (at' c i.toNat), crP (at' c (i.toNat + 1)), L + 1, out ++ [⟨crP (at' c i.toNat), crP (at' c (i.toNat + 1))⟩], ⟨⟨h0, by omega⟩, by rw [s_add, w64 (by omega) (by omega)], ⟨by omega, hi⟩, ?_, ?_, ?_, ?_, rfl, ⟨by omega, by omega, ?_, by rw [hlen]; simp⟩, fun n hn => by omega⟩⟩
 ·show zs.getD i.toNat _ = _
  exact hz _ (by omega)
 ·show zs.getD (i + 1).toNat _ = _
  rw [e]; exact hz _ (by omega)
 ·rw [s_app, s_tk, List.take_of_length_le (by omega)]
 ·rw [s_fits]
  show 0 <= L + 1 /\ L + 1 <= _ /\ (L + 1) * 160 <= _
  omega
 ·rw [e, segs_take (by omega), List.map_append, h.eq]; rfl
theorem FinI.done {S : Sq} {l : List Pq} {c : List Pq} {rs : List Sg} (hc : c = cutsL S l) (hr : rs = (segsL (cutsL S l)).map crS) {i L : Int} {out : List Sg} (h : FinI c i L out) (hi : ¬ i + 1 < c.length) : out = rs /\ L = (rs.length : Int) := by
 have e : out = rs := by rw [h.eq, hr, hc, segs_all (by have := h.h1; rw [<- hc]; omega)]
 exact ⟨e, by rw [h.len, e]⟩
/-- Reverse. -/
structure RevP (l2 : List Pq) (i j : Int) (ys : List Pt) (l : List Pq) : Prop where
 h0 : 0 <= i
 eq : ys = l.map crP
 rv : RevI l2 l i.toNat j
structure RevF (l2 : List Pq) (L i j : Int) (ys : List Pt) (w1 w2 : Pt) (i' j' : Int) (ys' : List Pt) (l' : List Pq) : Prop where
 in1 : 0 <= i /\ i < L
 in2 : 0 <= j /\ j < L
 g1 : Env.std.get Pt ys j z0 = w1
 g2 : Env.std.get Pt ys i z0 = w2
 row : Env.std.set Pt (Env.std.set Pt ys i w1) j w2 = ys'
 add : Env.std.ib .add .i64 i 1 = i'
 sub : Env.std.ib .sub .i64 j 1 = j'
 inv : RevP l2 i' j' ys' l'
 mu : (j' - i').toNat < (j - i).toNat
theorem revF_ex {l2 : List Pq} {L : Int} (hL : L = l2.length) (hl : l2.length <= 4096) {i j : Int} {ys : List Pt} {l : List Pq} (h : RevP l2 i j ys l) (hij : i < j) : ∃ w1 w2 i' j' ys' l', RevF l2 L i j ys w1 w2 i' j' ys' l' := by
 have h0 := h.h0
 have h1 := h.rv.sum
 have h2 := h.rv.len
 have e : (i + 1).toNat = i.toNat + 1 := by omega
 have b1 : i.toNat < l.length := by omega
 have b2 : j.toNat < l.length := by omega
 refine ⟨crP (at' l j.toNat), crP (at' l i.toNat), i + 1, j - 1, (swp l i.toNat j.toNat).map crP, swp l i.toNat j.toNat, ⟨⟨h0, by omega⟩, ⟨by omega, by omega⟩, ?_, ?_, ?_, by rw [s_add, w64 (by omega) (by omega)], by rw [s_sub, w64 (by omega) (by omega)], ⟨by omega, rfl, ?_⟩, by omega⟩⟩
 ·show ys.getD j.toNat _ = _
  rw [h.eq, at_map b2]
 ·show ys.getD i.toNat _ = _
  rw [h.eq, at_map b1]
 ·show (ys.set i.toNat _).set j.toNat _ = _
  rw [h.eq]; unfold swp; rw [List.map_set, List.map_set]
 ·rw [e]
  exact h.rv.step (by omega)
/-- Compact, the first loop. -/
structure CmpF (l : List Pq) (ys : List Pt) (L k : Int) (w1 w2 : Pt) (k1 k' : Int) : Prop where
 in1 : 0 <= k /\ k < L
 sub : Env.std.ib .sub .i64 k 1 = k1
 in2 : 0 <= k1 /\ k1 < L
 g1 : Env.std.get Pt ys k z0 = w1
 g2 : Env.std.get Pt ys k1 z0 = w2
 add : Env.std.ib .add .i64 k 1 = k'
 yes : w1 = w2 -> CmpB l l k.toNat (k.toNat + 1)
 no : ¬ w1 = w2 -> 1 <= k' /\ CmpA l k'.toNat
 mu : (L - k').toNat < (L - k).toNat
theorem cmpF_ex {l : List Pq} {ys : List Pt} (hy : ys = l.map crP) {L : Int} (hL : L = l.length) (hl : l.length <= 4096) {k : Int} (h0 : 1 <= k) (h : CmpA l k.toNat) (hk : k < L) : ∃ w1 w2 k1 k', CmpF l ys L k w1 w2 k1 k' := by
 have e : (k + 1).toNat = k.toNat + 1 := by omega
 have e2 : (k - 1).toNat = k.toNat - 1 := by omega
 have b1 : k.toNat < l.length := by omega
 refine ⟨crP (at' l k.toNat), crP (at' l (k.toNat - 1)), k - 1, k + 1, ⟨⟨by omega, hk⟩, by rw [s_sub, w64 (by omega) (by omega)], ⟨by omega, by omega⟩, ?_, ?_, by rw [s_add, w64 (by omega) (by omega)], fun hw => h.turn b1 (crP_iff.1 hw), fun hw => ⟨by omega, ?_⟩, by omega⟩⟩
 ·show ys.getD k.toNat _ = _
  rw [hy, at_map b1]
 ·show ys.getD (k - 1).toNat _ = _
  rw [e2, hy, at_map (by omega)]
 ·rw [e]; exact h.step b1 (fun hc => hw (by rw [hc]))
/-- Compact, the second loop: o counts from the first double on. -/
structure CmpP (l : List Pq) (q k o : Int) (ys : List Pt) (x : List Pq) : Prop where
 h0 : 1 <= k
 h1 : 1 <= o
 eq : ys = x.map crP
 b : CmpB l x k.toNat (q + o).toNat
structure CmpG (l : List Pq) (q L M k o : Int) (ys : List Pt) (w1 w2 : Pt) (o1 a0 a1 k' o' : Int) (ys' : List Pt) (x x' : List Pq) : Prop where
 in1 : 0 <= o /\ o < M
 sub : Env.std.ib .sub .i64 o 1 = o1
 in2 : 0 <= o1 /\ o1 < M
 ad0 : Env.std.ad q o = a0
 ad1 : Env.std.ad q o1 = a1
 g1 : Env.std.get Pt ys a0 z0 = w1
 g2 : Env.std.get Pt ys a1 z0 = w2
 in3 : 0 <= k /\ k < L
 row : Env.std.set Pt ys k w1 = ys'
 addk : Env.std.ib .add .i64 k 1 = k'
 addo : Env.std.ib .add .i64 o 1 = o'
 yes : w1 = w2 -> CmpP l q k o' ys x
 no : ¬ w1 = w2 -> CmpP l q k' o' ys' x'
 mu : (M - o').toNat < (M - o).toNat
theorem cmpG_ex {l : List Pq} {q L M : Int} (hq : 0 <= q) (hL : L = l.length) (hM : M = L - q) (hl : l.length <= 4096) {k o : Int} {ys : List Pt} {x : List Pq} (h : CmpP l q k o ys x) (ho : o < M) : ∃ w1 w2 o1 a0 a1 k' o' ys' x', CmpG l q L M k o ys w1 w2 o1 a0 a1 k' o' ys' x x' := by
 have h0 := h.h0
 have h1 := h.h1
 have hb := h.b
 have hlt := hb.lt
 have hle := hb.le
 have hlen := hb.len
 have e1 : (q + (o + 1)).toNat = (q + o).toNat + 1 := by omega
 have e2 : (q + (o - 1)).toNat = (q + o).toNat - 1 := by omega
 have e3 : (k + 1).toNat = k.toNat + 1 := by omega
 have b1 : (q + o).toNat < l.length := by omega
 refine ⟨crP (at' x (q + o).toNat), crP (at' x ((q + o).toNat - 1)), o - 1, q + o, q + (o - 1), k + 1, o + 1, (x.set k.toNat (at' x (q + o).toNat)).map crP, x.set k.toNat (at' x (q + o).toNat), ⟨⟨by omega, ho⟩, by rw [s_sub, w64 (by omega) (by omega)], ⟨by omega, by omega⟩, rfl, rfl, ?_, ?_, ⟨by omega, by omega⟩, ?_, by rw [s_add, w64 (by omega) (by omega)], by rw [s_add, w64 (by omega) (by omega)], fun hw => ⟨h0, by omega, h.eq, ?_⟩, fun hw => ⟨by omega, by omega, rfl, ?_⟩, by omega⟩⟩
 ·show ys.getD (q + o).toNat _ = _
  rw [h.eq, at_map (by omega)]
 ·show ys.getD (q + (o - 1)).toNat _ = _
  rw [e2, h.eq, at_map (by omega)]
 ·show ys.set k.toNat _ = _
  rw [h.eq, List.map_set]
 ·rw [e1]; exact hb.same b1 (crP_iff.1 hw)
 ·rw [e1, e3]; exact hb.more b1 (fun hc => hw (by rw [hc]))
theorem cmp_end {l x : List Pq} {k o : Nat} (h : CmpB l x k o) (ho : ¬ o < l.length) {c : List Pq} (hc : dd l = c) : k = c.length := by
 have h1 := h.done ho
 have h2 := h.lt
 have h3 := h.le
 have h4 := h.len
 rw [<- hc, <- h1, List.length_take]; omega
theorem cmp_get {l x : List Pq} {k o : Nat} (h : CmpB l x k o) (ho : ¬ o < l.length) {c : List Pq} (hc : dd l = c) {r : List Pt} : ∀ i, i < c.length -> ((x.map crP).take k ++ r).getD i z0 = crP (at' c i) := by
 intro i hi
 have hk := cmp_end h ho hc
 have h1 := h.done ho
 have h2 := h.lt
 have h3 := h.le
 have h4 := h.len
 rw [List.getD_eq_getElem?_getD, List.getElem?_append_left (by rw [List.length_take, List.length_map]; omega), <- List.map_take, h1, hc, List.getElem?_map]
 unfold at'
 rw [List.getD_eq_getElem?_getD, List.getElem?_eq_getElem hi]; rfl
theorem map_get {c : List Pq} : ∀ i, i < c.length -> (c.map crP).getD i z0 = crP (at' c i) := fun i hi => at_map hi _
end Go.Proofs.YtfdealobplcboaaGreat.Sx

set_option linter.unusedVariables false
set_option linter.unusedSimpArgs false
namespace Go.Proofs.YtfdealobplcboaaGreat.Sx
section
variable {P : Program}
def St.lit (s : St) (k b l : Nat) (ty : TypeId) (cd : Cd) (ys : List cd.α) : St := ⟨s.t.set k (.s s.h.length l), s.h.set b .dead ++ [.row true ty cd ys]⟩
theorem LoopTo.lit {m : Nat} {c : Unit -> Code} {B : Unit -> (X -> St -> Prop) -> St -> Prop} {K : X -> St -> Prop} {s : St} (k b l : Nat) {cs : List AV} {ty : TypeId} (cd : Cd) (ys : List cd.α) (hc : cd.Ok) (hl : ys.length = l) (hm : l <= 1000) (hk : s.t[k]? = some (.q b 0 l l)) (hb : s.h[b]? = some (.cells cs ty)) (hp : plain cs = some (ys.flatMap cd.enc))
  (h : LoopTo P m c B K (s.lit k b l ty cd ys)) : LoopTo P m c B K s := by
 refine ⟨fun ro hB w0 β0 β M a w ht hw hx => ?_⟩
 have hle := hw.below.size
 obtain ⟨us, hg, hvs⟩ := hw.blk b _ hb
 have hus := plain_rel hp hvs
 have hblt : b < s.h.length := (List.getElem?_eq_some_iff.1 hb).1
 have hocc : (Blk.cells cs ty).occ (β b) = some (β b).g := rfl
 have hkill := hw.kill b
 have hadd := hkill.add (b := .row true ty cd ys) (l := ⟨0, some ⟨(β b).g, 0, none⟩, l, cd.sz, l⟩) ⟨hc, rfl, hl.symm, by simp only; rw [flat_length hc, hl], .inr ⟨(β b).g, l, us, rfl, Nat.zero_le _, hg, Nat.le_refl _, by simp only [maxLen]; omega, by rw [<- Array.length_toList, hus, flat_length hc, hl], by rw [hus, List.take_of_length_le (by rw [flat_length hc, hl]; exact Nat.le_refl _)]⟩⟩ trivial (
  by
  intro g hg'
  simp only [Blk.occ, Option.map_some] at hg'; injection hg' with hg'; subst hg'
  refine ⟨hw.mine b _ _ hb hocc, fun j d hj ho => ?_, fun j e c' xs hj hx d hd => ?_⟩
  ·rw [List.getElem?_set] at hj
   split at hj
   ·(try split at hj)
    ·injection hj with hj; subst hj; simp [Blk.occ] at ho
    all_goals (first | cases hj | skip)
   ·rename_i hne; exact hne (hw.inj b j _ d _ hb hj hocc ho)
  ·rw [List.getElem?_set] at hj
   split at hj
   ·(try split at hj)
    ·injection hj with hj; cases hj
    all_goals (first | cases hj | skip)
   ·exact hw.ro j b e c' xs _ _ hj hx hb hocc d hd) (fun _ _ _ e => by cases e)
 have hls : (s.h.set b .dead).length = s.h.length := by simp
 rw [hls] at hadd
 refine h.out ro hB w0 β0 (grow β s.h.length ⟨0, some ⟨(β b).g, 0, none⟩, l, cd.sz, l⟩) M a w ?_ hadd ?_
 ·have e1 : (s.lit k b l ty cd ys).h.length = s.h.length + 1 := by simp [St.lit]
  rw [e1]
  have ht' := ht.grow ⟨0, some ⟨(β b).g, 0, none⟩, l, cd.sz, l⟩
  obtain ⟨u, hu, hr⟩ := AVRs_get ht'.rel hk
  simp only [AVR] at hr
  rw [grow_lt hblt] at hr
  subst hr
  refine ⟨?_, ht'.defers, oks_set ht'.ok (by simp only [AV.ok]; omega) k⟩
  have h2 := ht'.rel.set (x := .s s.h.length l) (u := .slice (some ⟨(β b).g, 0, none⟩) l l) (avr_s (by omega) (by rw [grow_at]; simp) (by rw [grow_at]; simp)) k
  have e2 : a.tmps.toList.set k (.slice (some ⟨(β b).g, 0, none⟩) l l) = a.tmps.toList := by
   apply List.ext_getElem?
   intro j
   rw [List.getElem?_set]
   split
   ·rename_i e; subst e
    rw [hu]
    split
    ·rfl
    ·rename_i hlt; exact absurd (List.getElem?_eq_some_iff.1 hu).1 hlt
   ·rfl
  rw [e2] at h2; exact h2
 ·exact ⟨by have := hx.1; simp [St.lit]; omega, fun i hi => by rw [grow_lt (Nat.lt_of_lt_of_le hi hx.1), hx.2 i hi]⟩
end
end Go.Proofs.YtfdealobplcboaaGreat.Sx

set_option linter.unusedVariables false
set_option linter.unusedSimpArgs false
set_option maxRecDepth 100000
set_option maxHeartbeats 8000000
namespace Go.Proofs.YtfdealobplcboaaGreat.Sx
abbrev tiW : TI := { kind := 5, sz := 1, zero := [.int .u64 0], flds := [], elem := 0, ik := .u64, eq := false, len := 0, bytes := 8, cd := some (cInt .u64) }
theorem tyW : TyOk Tryz.prog 167 tiW := ⟨by kernel_rfl, by kernel_rfl, (fun _ => ⟨_, rfl, rfl⟩), rfl, (fun _ h => by injection h with h; subst h; exact ⟨cInt_ok _, rfl, rfl⟩), (fun h => by cases h)⟩
def ttW : Tab := (167, tiW) :: tt
theorem ttWOk : TabOk Tryz.prog ttW := .cons tyW ttOk
theorem len64_con (x : Int) (n : Nat) (h0 : 0 <= x) (hx : x < 256) (h : IsLen n x.toNat) : Con Tryz.prog 234 [.v (.int .u64 x)] (.v (.int .i64 n)) := by
 refine Con.of ttWOk mixed Tryz.func234 {} .nil 0 (by kernel_rfl) (fun P' E hP hE => ?_)
 cbv
 refine fork.mk ?_ ?_
 ·intro h1
  have h1 : 4294967296 <= x := by
   subst hE
   have h : Env.std.ic .geq x 4294967296 = true := h1
   simpa using h
  omega
 ·intro h1
  cbv
  refine fork.mk ?_ ?_
  ·intro h1
   have h1 : 65536 <= x := by
    subst hE
    have h : Env.std.ic .geq x 65536 = true := h1
    simpa using h
   omega
  ·intro h1
   cbv
   refine fork.mk ?_ ?_
   ·intro h1
    have h1 : 256 <= x := by
     subst hE
     have h : Env.std.ic .geq x 256 = true := h1
     simpa using h
    omega
   ·intro h1
    have q := ends (Y := x) (y := x.toNat) (by omega) (by omega) (by decide : 0 <= 24) (fun m hm => by rw [Nat.zero_add]; exact hm) h
    cbv
    refine ⟨by subst hE; exact q.1, ?_⟩
    cbv
    subst hE
    exact congrArg (Value.int .i64) q.2
theorem bitsLen_con (x : Int) (n : Nat) (h0 : 0 <= x) (hx : x < 256) (h : IsLen n x.toNat) : Con Tryz.prog 200 [.v (.int .u64 x)] (.v (.int .i64 n)) := by
 have hc := len64_con x n h0 hx h
 obtain ⟨m, hm⟩ : ∃ m : Int, m = n := ⟨_, rfl⟩
 rw [<- hm] at hc ⊢
 refine Con.of ttWOk mixed Tryz.func200 {} .nil 0 (by kernel_rfl) (fun P' E hP hE => ?_)
 cbv
 refine CallTo.con hP hE hc ⟨rfl, trivial⟩ ?_
 cbv
theorem isLen_ex {x : Int} (h0 : 0 <= x) (hx : x < 256) : ∃ n : Nat, IsLen n x.toNat := ⟨_, lenTab_at x.toNat (by omega)⟩
end Go.Proofs.YtfdealobplcboaaGreat.Sx
