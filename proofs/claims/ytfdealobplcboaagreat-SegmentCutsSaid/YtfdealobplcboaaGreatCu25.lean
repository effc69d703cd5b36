/- Part 25 of what the statement needs: an executor of Go texts, arithmetic, and contracts of the functions that are called. -/
import Derived.Test.YtfdealobplcboaaGreatCu6
import Derived.Test.YtfdealobplcboaaGreatCu19
import Derived.Test.YtfdealobplcboaaGreatCu22
import Derived.Test.YtfdealobplcboaaGreatCu23
import Derived.Test.YtfdealobplcboaaGreatCu24
set_option linter.unusedVariables false
set_option linter.unusedSimpArgs false
namespace Go.Proofs.YtfdealobplcboaaGreat.Sx
theorem line_or {s : Sq} {p q r : Pq} (hp : OnS s p) (hq : OnS s q) (hr : OnS s r) : orQ p q r = 0 := by
 obtain ⟨t, _, _, rfl⟩ := hp
 obtain ⟨u, _, _, rfl⟩ := hq
 obtain ⟨v, _, _, rfl⟩ := hr
 unfold orQ
 rw [cmpQ_eq]
 simp only [Pq.cross, Pq.sub, Pq.at, Pq.add, Pq.scale]
 grind
theorem dir_ord {s : Sq} {p q : Pq} (h : dirP s p q) : ordS ⟨p, q⟩ = if cmpP s.a s.b < 0 then ⟨p, q⟩ else ⟨q, p⟩ := by
 unfold dirP at h
 unfold ordS
 by_cases c : cmpP s.a s.b < 0
 ·rw [if_pos c] at h ⊢
  unfold ltP at h
  rw [if_neg (by simp only; omega)]
 ·rw [if_neg c] at h ⊢
  rw [if_pos]
  have : ¬ leP p q := ltP_iff.1 h
  exact leP_lt.1 this
/-- What i + 1 pieces yield. -/
def wholeS (c : List Pq) (i : Nat) : Sq := if i = 0 then ⟨at' c 0, at' c 1⟩ else ordS ⟨at' c 0, at' c (i + 1)⟩
theorem whole_ord (c : List Pq) (i : Nat) : ordS (wholeS c i) = ordS ⟨at' c 0, at' c (i + 1)⟩ := by
 unfold wholeS
 by_cases h : i = 0
 ·rw [if_pos h, h]
 ·rw [if_neg h, ord_ord]
theorem whole_ends (c : List Pq) (i : Nat) : ((wholeS c i).a = at' c 0 /\ (wholeS c i).b = at' c (i + 1)) \/ ((wholeS c i).a = at' c (i + 1) /\ (wholeS c i).b = at' c 0) := by
 unfold wholeS
 by_cases h : i = 0
 ·rw [if_pos h, h]; exact .inl ⟨rfl, rfl⟩
 ·rw [if_neg h]; exact ord_cases _
theorem dirP_ne {s : Sq} {p q : Pq} (h : dirP s p q) : p ≠ q := fun e => dirP_irr s p (e ▸ h)
theorem join_step {s : Sq} (hs : chkQ s = 0) (l : List Pq) {i : Nat} (hi : i + 2 < (cutsL s l).length) :
  joinE (wholeS (cutsL s l) i) ⟨at' (cutsL s l) (i + 1), at' (cutsL s l) (i + 2)⟩ = 0 /\ joinS (wholeS (cutsL s l) i) ⟨at' (cutsL s l) (i + 1), at' (cutsL s l) (i + 2)⟩ = wholeS (cutsL s l) (i + 1) := by
 have hd := cuts_dir hs l
 have d1 : dirP s (at' (cutsL s l) 0) (at' (cutsL s l) (i + 1)) := pw_at hd (by omega) (by omega)
 have d2 : dirP s (at' (cutsL s l) (i + 1)) (at' (cutsL s l) (i + 2)) := pw_at hd (by omega) (by omega)
 have d3 := dirP_trans d1 d2
 have o0 : OnS s (at' (cutsL s l) 0) := (on_iff _ _).1 (cut_on (at_mem (by omega)))
 have o1 : OnS s (at' (cutsL s l) (i + 1)) := (on_iff _ _).1 (cut_on (at_mem (by omega)))
 have o2 : OnS s (at' (cutsL s l) (i + 2)) := (on_iff _ _).1 (cut_on (at_mem (by omega)))
 have hord := whole_ord (cutsL s l) i
 have hends := whole_ends (cutsL s l) i
 have hnext : wholeS (cutsL s l) (i + 1) = ordS ⟨at' (cutsL s l) 0, at' (cutsL s l) (i + 2)⟩ := by
  unfold wholeS; rw [if_neg (by omega)]
 generalize wholeS (cutsL s l) i = W at hord hends ⊢
 rw [hnext]
 generalize at' (cutsL s l) 0 = c0 at *
 generalize at' (cutsL s l) (i + 1) = c1 at *
 generalize at' (cutsL s l) (i + 2) = c2 at *
 have hW : W.a ≠ W.b := by
  rcases hends with ⟨e1, e2⟩ | ⟨e1, e2⟩
  ·rw [e1, e2]; exact dirP_ne d1
  ·rw [e1, e2]; exact (dirP_ne d1).symm
 have hT : c1 ≠ c2 := dirP_ne d2
 have oa : OnS s W.a := by rcases hends with ⟨e1, e2⟩ | ⟨e1, e2⟩ <;> rw [e1] <;> assumption
 have ob : OnS s W.b := by rcases hends with ⟨e1, e2⟩ | ⟨e1, e2⟩ <;> rw [e2] <;> assumption
 have ow : OnS W c1 := by
  rcases hends with ⟨e1, e2⟩ | ⟨e1, e2⟩
  ·rw [<- e2]; exact at_on.2
  ·rw [<- e1]; exact at_on.1
 have hE : joinE W ⟨c1, c2⟩ = 0 := by
  unfold joinE
  rw [if_neg (by rw [wrongQ_iff]; rintro (h | h); exact hW h; exact hT h), if_neg (by rw [line_or oa ob o1, line_or oa ob o2]; simp)]
  obtain ⟨m, hm, _⟩ := (meet_on (s := W) (t := ⟨c1, c2⟩) hW hT c1).1 ⟨ow, at_on.1⟩
  rw [hm]; rfl
 refine ⟨hE, ?_⟩
 unfold joinS
 rw [if_pos hE, hord, dir_ord d1, dir_ord d2, dir_ord d3]
 unfold dirP at d1 d2
 by_cases c : cmpP s.a s.b < 0
 ·rw [if_pos c] at d1 d2
  rw [if_pos c, if_pos c, if_pos c]
  simp only [lsP, grP]
  rw [if_pos (show cmpP c0 c1 < 0 from d1), if_pos (show cmpP c1 c2 < 0 from d2)]
 ·rw [if_neg c] at d1 d2
  rw [if_neg c, if_neg c, if_neg c]
  simp only [lsP, grP]
  have n1 : ¬ cmpP c1 c2 < 0 := fun e => absurd (ltP_trans d2 e) (ltP_irr _)
  have n2 : ¬ cmpP c0 c1 < 0 := fun e => absurd (ltP_trans d1 e) (ltP_irr _)
  rw [if_neg n1, if_neg n2]
/-- At the end all pieces are the segment. -/
theorem whole_all {s : Sq} (hs : chkQ s = 0) (l : List Pq) {i : Nat} (hi : i + 2 = (cutsL s l).length) : ordS (wholeS (cutsL s l) i) = ordS s := by
 rw [whole_ord, cuts_first hs, (cuts_last hs l (k := i + 1) (by omega)).2 (by omega)]
/-- A cut between the ends is one of the points. -/
theorem cut_mem {s : Sq} (hs : chkQ s = 0) (l : List Pq) {i : Nat} (h0 : 0 < i) (hi : i + 1 < (cutsL s l).length) : at' (cutsL s l) i ∈ l := by
 have hd := cuts_dir hs l
 rcases mem_cuts.1 (at_mem (by omega) : at' (cutsL s l) i ∈ cutsL s l) with h | h | h
 ·have d := pw_at hd h0 (by omega)
  rw [cuts_first hs, h] at d
  exact absurd d (dirP_irr _ _)
 ·have := (cuts_last hs l (k := i) (by omega)).1 h
  omega
 ·exact h.1
/-- A point of the list is an end of a piece exactly if it lies on the segment. -/
theorem end_on {s : Sq} (hs : chkQ s = 0) (l : List Pq) {p : Pq} (hp : p ∈ l) : (segsL (cutsL s l)).any (fun x => decide (cmpP x.a p = 0) || decide (cmpP x.b p = 0)) = onQ s p := by
 have hl := cuts_pos hs l
 rw [Bool.eq_iff_iff, List.any_eq_true]
 constructor
 ·rintro ⟨x, hx, h⟩
  obtain ⟨k, hk, e⟩ := List.mem_iff_getElem.1 hx
  have hk2 : k + 1 < (cutsL s l).length := by rw [segs_len] at hk; omega
  have e2 := segs_get hk2
  rw [List.getElem?_eq_getElem hk, e] at e2
  injection e2 with e2
  subst e2
  simp only [Bool.or_eq_true, decide_eq_true_iff, cmpP_eq] at h
  rcases h with h | h
  ·rw [<- h]; exact cut_on (at_mem (by omega))
  ·rw [<- h]; exact cut_on (at_mem hk2)
 ·intro h
  obtain ⟨i, hi, e⟩ := mem_at.1 (mem_cuts.2 (.inr (.inr ⟨hp, h⟩)) : p ∈ cutsL s l)
  by_cases hk : i + 1 < (cutsL s l).length
  ·refine ⟨_, List.mem_of_getElem? (segs_get hk), ?_⟩
   simp [e, cmpP_eq]
  ·obtain ⟨j, rfl⟩ : ∃ j, i = j + 1 := ⟨i - 1, by omega⟩
   refine ⟨_, List.mem_of_getElem? (segs_get (k := j) hi), ?_⟩
   simp [e, cmpP_eq]
end Go.Proofs.YtfdealobplcboaaGreat.Sx

set_option linter.unusedVariables false
set_option linter.unusedSimpArgs false
set_option maxRecDepth 100000
set_option maxHeartbeats 16000000
namespace Go.Proofs.YtfdealobplcboaaGreat.Sx
abbrev zS : Sg := ⟨⟨⟨false, ⟨#[]⟩, ⟨#[]⟩⟩, ⟨false, ⟨#[]⟩, ⟨#[]⟩⟩⟩, ⟨⟨false, ⟨#[]⟩, ⟨#[]⟩⟩, ⟨false, ⟨#[]⟩, ⟨#[]⟩⟩⟩⟩
theorem all_tk {α : Type} (l : List α) : Env.std.tk α l (Env.std.len α l) = l := by
 rw [s_tk, s_len]; exact List.take_of_length_le (by omega)
theorem cuts_ok : InlOk Tryz.prog [(71, Tryz.f71, {}), (154, Tryz.f154, {}), (72, Tryz.f72, {}), (73, Tryz.f73, {}), (155, Tryz.f155, {}), (74, Tryz.f74, {})] :=
 InlOk.cons Tryz.func71 (by kernel_rfl) (InlOk.cons Tryz.func154 (by kernel_rfl) (InlOk.cons Tryz.func72 (by kernel_rfl) (InlOk.cons Tryz.func73 (by kernel_rfl) (InlOk.cons Tryz.func155 (by kernel_rfl) (InlOk.cons Tryz.func74 (by kernel_rfl) .nil)))))
/-- What the loop over the pieces holds. -/
structure CutI (c : List Pq) (n i : Int) (w : Sg) : Prop where
 h0 : 0 <= i
 h1 : i <= n
 eq : w = crS (wholeS c (i - 1).toNat)
/-- A round over the pieces. -/
structure CutF (s : Sg) (c l : List Pq) (rs : List Sg) (n i : Int) (w x : Sg) (m0 : Int) (v : Bool) (j i1 : Int) (y w' : Sg) (e0 : Int) : Prop where
 in1 : 0 <= i /\ i < n
 g1 : Env.std.get Sg rs i zS = x
 chk : Con Tryz.prog 22 [.v x.v] (.v (.int .i64 m0))
 m0 : m0 = 0
 on : Con Tryz.prog 23 [.v s.v, .v x.a.v] (.v (.bool v))
 v : v = true
 add : Env.std.ib .add .i64 i 1 = j
 sub : Env.std.ib .sub .i64 i 1 = i1
 in2 : 0 < i -> 0 <= i1 /\ i1 < n
 g2 : Env.std.get Sg rs i1 zS = y
 eqb : 0 < i -> y.b = x.a
 mem : 0 < i -> ∃ q ∈ l, x.a = crP q
 isx : IsP 40 x.a x.a.q
 join : Con Tryz.prog 33 [.v w.v, .v x.v] (.v (.tuple #[w'.v, .int .i64 e0]))
 e0 : 0 < i -> e0 = 0
 st0 : ¬ 0 < i -> CutI c n j w
 st1 : 0 < i -> CutI c n j w'
 mu : (n - j).toNat < (n - i).toNat
theorem cutF_ex {s : Sg} {S : Sq} (hs : IsS 40 s S) {l : List Pq} (hl : ∀ q ∈ l, BdP 40 q) (hc : chkQ S = 0) {n : Int} (hn : n = (((segsL (cutsL S l)).map crS).length : Int)) (hn4 : n <= 4096) {i : Int} {w : Sg} (h : CutI (cutsL S l) n i w) (hi : i < n) :
  ∃ x m0 v j i1 y w' e0, CutF s (cutsL S l) l ((segsL (cutsL S l)).map crS) n i w x m0 v j i1 y w' e0 := by
 have h0 := h.h0
 rw [List.length_map, segs_len] at hn
 have hp := cuts_pos hc l
 have hbd : ∀ q ∈ cutsL S l, BdP 40 q := by
  intro q hq
  rcases mem_cuts.1 hq with e | e | e
  ·rw [e]; exact hs.a.b
  ·rw [e]; exact hs.b.b
  ·exact hl q e.1
 have b1 : i.toNat + 1 < (cutsL S l).length := by omega
 have gx : ∀ k, k + 1 < (cutsL S l).length -> ((segsL (cutsL S l)).map crS).getD k zS = crS ⟨at' (cutsL S l) k, at' (cutsL S l) (k + 1)⟩ := by
  intro k hk
  rw [List.getD_eq_getElem?_getD, List.getElem?_map, segs_get hk]; rfl
 have hx : BdS 40 ⟨at' (cutsL S l) i.toNat, at' (cutsL S l) (i.toNat + 1)⟩ := ⟨hbd _ (at_mem (by omega)), hbd _ (at_mem b1)⟩
 have hw : BdS 40 (wholeS (cutsL S l) (i - 1).toNat) := by
  have h1 : BdP 40 (at' (cutsL S l) 0) := hbd _ (at_mem (by omega))
  have h2 : BdP 40 (at' (cutsL S l) ((i - 1).toNat + 1)) := hbd _ (at_mem (by omega))
  rcases whole_ends (cutsL S l) (i - 1).toNat with ⟨e1, e2⟩ | ⟨e1, e2⟩
  ·exact ⟨by rw [e1]; exact h1, by rw [e2]; exact h2⟩
  ·exact ⟨by rw [e1]; exact h2, by rw [e2]; exact h1⟩
 obtain ⟨m0, em0, k0⟩ := schk_p hx.is (by decide)
 obtain ⟨v, ev, kv⟩ := son_p hs hx.is.a (by decide)
 obtain ⟨w', e0, ew, hw', ee, kj⟩ := sjoin_p hw.is hx.is (by decide)
 have hd := pw_at (cuts_dir hc l) (show i.toNat < i.toNat + 1 by omega) b1
 have hq : (crP (at' (cutsL S l) i.toNat)).q = at' (cutsL S l) i.toNat := by unfold crP Pt.q; rw [cr_q, cr_q]
 refine ⟨crS ⟨at' (cutsL S l) i.toNat, at' (cutsL S l) (i.toNat + 1)⟩, m0, v, i + 1, i - 1, _, w', e0, ⟨⟨h0, hi⟩, gx _ b1, k0, ?_, kv, ?_, by rw [s_add, w64 (by omega) (by omega)], by rw [s_sub, w64 (by omega) (by omega)], fun h => ⟨by omega, by omega⟩, rfl, fun h => ?_, fun h => ⟨_, cut_mem hc l (show 0 < i.toNat by omega) b1, rfl⟩, ?_, by rw [h.eq]; exact kj, fun h => ?_, fun hz => ⟨by omega, by omega, ?_⟩, fun h => ⟨by omega, by omega, ?_⟩, by omega⟩⟩
 ·rw [em0]; unfold chkQ; rw [if_neg (by rw [cmpP_eq]; exact dirP_ne hd)]
 ·rw [ev]; exact cut_on (at_mem (by omega))
 ·show (((segsL (cutsL S l)).map crS).getD (i - 1).toNat zS).b = _
  rw [gx _ (by omega)]
  have e : (i - 1).toNat + 1 = i.toNat := by omega
  rw [e]; rfl
 ·show IsP 40 (crP (at' (cutsL S l) i.toNat)) (crP (at' (cutsL S l) i.toNat)).q
  rw [hq]; exact hx.is.a
 ·have hj := join_step hc l (i := (i - 1).toNat) (by omega)
  have e1 : (i - 1).toNat + 1 = i.toNat := by omega
  have e2 : (i - 1).toNat + 2 = i.toNat + 1 := by omega
  rw [e1, e2] at hj
  rw [ee]; exact hj.1
 ·rw [h.eq]
  have e1 : (i - 1).toNat = 0 := by omega
  have e2 : (i + 1 - 1).toNat = 0 := by omega
  rw [e1, e2]
 ·have hj := join_step hc l (i := (i - 1).toNat) (by omega)
  have e1 : (i - 1).toNat + 1 = i.toNat := by omega
  have e2 : (i - 1).toNat + 2 = i.toNat + 1 := by omega
  rw [e1, e2] at hj
  have e3 : (i + 1 - 1).toNat = i.toNat := by omega
  rw [ew, e3, hj.2]
/-- A search in the list of points for the beginning of a piece. -/
structure FndF (l : List Pt) (a : Pt) (n i : Int) (p : Pt) (m j : Int) : Prop where
 in1 : 0 <= i /\ i < (l.length : Int)
 g1 : Env.std.get Pt l i z0 = p
 cmp : Con Tryz.prog 21 [.v p.v, .v a.v] (.v (.int .i64 m))
 add : Env.std.ib .add .i64 i 1 = j
 st : m ≠ 0 -> 0 <= j /\ j <= n /\ ∀ k, k < j.toNat -> (l.getD k z0).q ≠ a.q
 i0 : 0 <= i
 mu : (n - j).toNat < (n - i).toNat
theorem fndF_ex {l : List Pt} (hl : ∀ p ∈ l, IsP 40 p p.q) (hl8 : l.length <= 4096) {a : Pt} (ha : IsP 40 a a.q) {n : Int} (hn : n = (l.length : Int)) {i : Int} (h0 : 0 <= i) (h2 : ∀ k, k < i.toNat -> (l.getD k z0).q ≠ a.q) (hi : i < n) : ∃ p m j, FndF l a n i p m j := by
 have b : i.toNat < l.length := by omega
 have hp : l.getD i.toNat z0 ∈ l := by rw [List.getD_eq_getElem?_getD, List.getElem?_eq_getElem b]; exact List.getElem_mem b
 obtain ⟨m, em, km⟩ := vcmp_p (hl _ hp) ha (by decide)
 refine ⟨l.getD i.toNat z0, m, i + 1, ⟨⟨h0, by omega⟩, rfl, km, by rw [s_add, w64 (by omega) (by omega)], fun hm => ⟨by omega, by omega, fun k hk => ?_⟩, h0, by omega⟩⟩
 by_cases e : k = i.toNat
 ·rw [e]; intro hq
  apply hm
  rw [em, cmpP_eq]; exact hq
 ·exact h2 k (by omega)
/-- A search in the pieces for one that ends in a point. -/
def NoEnd (c : List Pq) (q : Pq) (k : Nat) : Prop := ∀ t, t < k -> ∀ e, (segsL c)[t]? = some e -> cmpP e.a q ≠ 0 /\ cmpP e.b q ≠ 0
structure FndG (c : List Pq) (rs : List Sg) (p : Pt) (v : Bool) (n k : Int) (y : Sg) (m1 m2 k' : Int) : Prop where
 in1 : 0 <= k /\ k < n
 g1 : Env.std.get Sg rs k zS = y
 c1 : Con Tryz.prog 21 [.v y.a.v, .v p.v] (.v (.int .i64 m1))
 c2 : Con Tryz.prog 21 [.v y.b.v, .v p.v] (.v (.int .i64 m2))
 add : Env.std.ib .add .i64 k 1 = k'
 yes : (m1 = 0 \/ m2 = 0) -> v = true
 no : m1 ≠ 0 -> m2 ≠ 0 -> 0 <= k' /\ k' <= n /\ NoEnd c p.q k'.toNat
 mu : (n - k').toNat < (n - k).toNat
theorem fndG_ex {S : Sq} (hc : chkQ S = 0) {l : List Pq} {n : Int} (hn : n = (((segsL (cutsL S l)).map crS).length : Int)) (hn4 : n <= 4096) (hbd : ∀ q ∈ cutsL S l, BdP 40 q) {p : Pt} (hp : IsP 40 p p.q) (hm : p.q ∈ l) {v : Bool} (hv : v = onQ S p.q) {k : Int} (h0 : 0 <= k) (h : NoEnd (cutsL S l) p.q k.toNat) (hk : k < n) :
  ∃ y m1 m2 k', FndG (cutsL S l) ((segsL (cutsL S l)).map crS) p v n k y m1 m2 k' := by
 rw [List.length_map, segs_len] at hn
 have b1 : k.toNat + 1 < (cutsL S l).length := by omega
 have hg := segs_get b1
 have hx : BdS 40 ⟨at' (cutsL S l) k.toNat, at' (cutsL S l) (k.toNat + 1)⟩ := ⟨hbd _ (at_mem (by omega)), hbd _ (at_mem b1)⟩
 obtain ⟨m1, e1, k1⟩ := vcmp_p hx.is.a hp (by decide)
 obtain ⟨m2, e2, k2⟩ := vcmp_p hx.is.b hp (by decide)
 have he := end_on hc l hm
 refine ⟨crS ⟨at' (cutsL S l) k.toNat, at' (cutsL S l) (k.toNat + 1)⟩, m1, m2, k + 1, ⟨⟨h0, hk⟩, ?_, k1, k2, by rw [s_add, w64 (by omega) (by omega)], fun hh => ?_, fun q1 q2 => ⟨by omega, by omega, fun t ht e het => ?_⟩, by omega⟩⟩
 ·show ((segsL (cutsL S l)).map crS).getD k.toNat zS = _
  rw [List.getD_eq_getElem?_getD, List.getElem?_map, hg]; rfl
 ·rw [hv, <- he, List.any_eq_true]
  refine ⟨_, List.mem_of_getElem? hg, ?_⟩
  rw [Bool.or_eq_true, decide_eq_true_iff, decide_eq_true_iff]
  rw [e1, e2] at hh; exact hh
 ·by_cases ek : t = k.toNat
  ·rw [ek, hg] at het
   injection het with het
   subst het
   exact ⟨by rw [<- e1]; exact q1, by rw [<- e2]; exact q2⟩
  ·exact h t (by omega) e het
theorem noEnd_off {S : Sq} (hc : chkQ S = 0) {l : List Pq} {q : Pq} (hm : q ∈ l) {k : Nat} (hk : (segsL (cutsL S l)).length <= k) (h : NoEnd (cutsL S l) q k) : onQ S q = false := by
 rw [<- end_on hc l hm, <- Bool.not_eq_true, List.any_eq_true]
 rintro ⟨x, hx, he⟩
 obtain ⟨t, ht, e⟩ := List.mem_iff_getElem.1 hx
 have := h t (by omega) x (by rw [List.getElem?_eq_getElem ht, e])
 rw [Bool.or_eq_true, decide_eq_true_iff, decide_eq_true_iff] at he
 rcases he with he | he
 ·exact this.1 he
 ·exact this.2 he
/-- A round over the points. -/
structure PtF (s : Sg) (l : List Pt) (n i : Int) (p : Pt) (v : Bool) (j : Int) : Prop where
 in1 : 0 <= i /\ i < (l.length : Int)
 g1 : Env.std.get Pt l i z0 = p
 on : Con Tryz.prog 23 [.v s.v, .v p.v] (.v (.bool v))
 ev : v = onQ s.q p.q
 m : p ∈ l
 add : Env.std.ib .add .i64 i 1 = j
 j0 : 0 <= j
 j1 : j <= n
 mu : (n - j).toNat < (n - i).toNat
theorem ptF_ex {s : Sg} (hs : IsS 40 s s.q) {l : List Pt} (hl : ∀ p ∈ l, IsP 40 p p.q) (hl8 : l.length <= 4096) {n : Int} (hn : n = (l.length : Int)) {i : Int} (h0 : 0 <= i) (hi : i < n) : ∃ p v j, PtF s l n i p v j := by
 have b : i.toNat < l.length := by omega
 have hp : l.getD i.toNat z0 ∈ l := by rw [List.getD_eq_getElem?_getD, List.getElem?_eq_getElem b]; exact List.getElem_mem b
 obtain ⟨v, ev, kv⟩ := son_p hs (hl _ hp) (by decide)
 exact ⟨_, v, i + 1, ⟨⟨h0, by omega⟩, rfl, kv, ev, hp, by rw [s_add, w64 (by omega) (by omega)], by omega, by omega, by omega⟩⟩
/-- What stands at the end. -/
structure EndF (s : Sg) (rs : List Sg) (n n1 : Int) (w x0 xl o : Sg) (ma mb : Int) : Prop where
 o1 : Con Tryz.prog 36 [.v w.v] (.v o.v)
 o2 : Con Tryz.prog 36 [.v s.v] (.v o.v)
 in0 : 0 <= (0 : Int) /\ (0 : Int) < n
 sub : Env.std.ib .sub .i64 n 1 = n1
 in1 : 0 <= n1 /\ n1 < n
 gl : Env.std.get Sg rs n1 zS = xl
 ca : Con Tryz.prog 21 [.v x0.a.v, .v s.a.v] (.v (.int .i64 ma))
 cb : Con Tryz.prog 21 [.v xl.b.v, .v s.b.v] (.v (.int .i64 mb))
 ma : ma = 0
 mb : mb = 0
theorem endF_ex {s : Sg} (hs : IsS 40 s s.q) {l : List Pq} (hc : chkQ s.q = 0) (hbd : ∀ q ∈ cutsL s.q l, BdP 40 q) {n : Int} (hn : n = (((segsL (cutsL s.q l)).map crS).length : Int)) (hn4 : n <= 4096) {w x0 : Sg} (hx0 : x0 = crS (wholeS (cutsL s.q l) 0)) {i : Int} (h : CutI (cutsL s.q l) n i w) (hi : ¬ i < n) :
  ∃ n1 xl o ma mb, EndF s ((segsL (cutsL s.q l)).map crS) n n1 w x0 xl o ma mb := by
 rw [List.length_map, segs_len] at hn
 have hp := cuts_pos hc l
 have h1 := h.h1
 have b1 : (n - 1).toNat + 1 < (cutsL s.q l).length := by omega
 have hW : BdS 40 (wholeS (cutsL s.q l) (i - 1).toNat) := by
  have h1 : BdP 40 (at' (cutsL s.q l) 0) := hbd _ (at_mem (by omega))
  have h2 : BdP 40 (at' (cutsL s.q l) ((i - 1).toNat + 1)) := hbd _ (at_mem (by omega))
  rcases whole_ends (cutsL s.q l) (i - 1).toNat with ⟨e1, e2⟩ | ⟨e1, e2⟩
  ·exact ⟨by rw [e1]; exact h1, by rw [e2]; exact h2⟩
  ·exact ⟨by rw [e1]; exact h2, by rw [e2]; exact h1⟩
 obtain ⟨o1, eo1, _, k1⟩ := sord_p hW.is (by decide)
 obtain ⟨o2, eo2, _, k2⟩ := sord_p hs (by decide)
 have eo : o1 = o2 := by rw [eo1, eo2, whole_all hc l (by omega)]
 have e0 : x0.a = crP s.q.a := by
  rw [hx0]; unfold wholeS; rw [if_pos rfl]
  show crP (at' (cutsL s.q l) 0) = _
  rw [cuts_first hc]
 obtain ⟨ma, ea, ka⟩ := vcmp_p hs.a.b.is hs.a (by decide)
 obtain ⟨mb, eb, kb⟩ := vcmp_p hs.b.b.is hs.b (by decide)
 rw [<- e0] at ka
 have el : at' (cutsL s.q l) ((n - 1).toNat + 1) = s.q.b := (cuts_last hc l b1).2 (by omega)
 refine ⟨n - 1, crS ⟨at' (cutsL s.q l) (n - 1).toNat, at' (cutsL s.q l) ((n - 1).toNat + 1)⟩, o1, ma, mb, ⟨by rw [h.eq]; exact k1, by rw [eo]; exact k2, ⟨by omega, by omega⟩, by rw [s_sub, w64 (by omega) (by omega)], ⟨by omega, by omega⟩, ?_, ka, ?_, by rw [ea, cmpP_eq], by rw [eb, cmpP_eq]⟩⟩
 ·show ((segsL (cutsL s.q l)).map crS).getD (n - 1).toNat zS = _
  rw [List.getD_eq_getElem?_getD, List.getElem?_map, segs_get b1]; rfl
 ·show Con Tryz.prog 21 [.v (crP (at' (cutsL s.q l) ((n - 1).toNat + 1))).v, .v s.b.v] _
  rw [el]; exact kb
theorem segmentCuts_con (s : Sg) (l : List Pt) (hl : l.length <= maxLen) : Con Tryz.prog 14 [.v s.v, .ro cP l] (.v (.bool true)) := by
 have kg := great_con [s.a, s.b] (by simp)
 obtain ⟨g, hg⟩ : ∃ g, g = bigL [s.a, s.b] := ⟨_, rfl⟩
 rw [<- hg] at kg
 have kg2 := great_big l (by simp only [maxLen] at hl; omega)
 obtain ⟨g2, hg2⟩ : ∃ g, g = bigL l := ⟨_, rfl⟩
 rw [<- hg2] at kg2
 by_cases hbig : g = true
 ·refine Con.of ttOk mixed Tryz.func14 { ord := [(10, [0, 1, 2, 3, 4, 5, 6, 7, 8, 9, 10, 11, 12, 13, 14, 15, 16, 17, 18, 19, 20, 21, 22, 23, 24, 25, 26, 27, 28, 29, 30]), (25, [0, 2, 1, 3, 4, 5, 6, 7, 8, 9, 10, 11, 12, 13, 14, 15, 16, 17, 18, 19, 20, 21, 22, 23, 24, 25, 26, 27, 28, 29, 30, 31])] } cuts_ok 4 (by kernel_rfl) (fun P' E hP hE => ?_)
  cbv
  refine CallTo.w hP hE kg ⟨⟨cP_ok, rfl, rfl, by decide⟩, trivial⟩ ?_
  cbv
  refine fork.yes hbig ?_
  cbv
  refine awake_c hP hE ?_
  cbv
 ·have h1 : g = false := by simpa using hbig
  by_cases hbig2 : g2 = true
  ·refine Con.of ttOk mixed Tryz.func14 { ord := [(10, [0, 1, 2, 3, 4, 5, 6, 7, 8, 9, 10, 11, 12, 13, 14, 15, 16, 17, 18, 19, 20, 21, 22, 23, 24, 25, 26, 27, 28, 29, 30]), (25, [0, 2, 1, 3, 4, 5, 6, 7, 8, 9, 10, 11, 12, 13, 14, 15, 16, 17, 18, 19, 20, 21, 22, 23, 24, 25, 26, 27, 28, 29, 30, 31])] } cuts_ok 4 (by kernel_rfl) (fun P' E hP hE => ?_)
   cbv
   refine CallTo.w hP hE kg ⟨⟨cP_ok, rfl, rfl, by decide⟩, trivial⟩ ?_
   cbv
   refine fork.no h1 ?_
   cbv
   refine CallTo.w hP hE kg2 ⟨(by subst hE; exact Sm.of (c := cP) (all_tk (α := Pt) l)), trivial⟩ ?_
   cbv
   refine fork.yes hbig2 ?_
   cbv
   refine awake_c hP hE ?_
   cbv
  ·have h2 : g2 = false := by simpa using hbig2
   by_cases h8 : 8 < l.length
   ·have h8y : Env.std.ic .gtr (Env.std.len Pt l) 8 = true := by rw [s_gtr, s_len]; exact decide_eq_true (by omega)
    refine Con.of ttOk mixed Tryz.func14 { ord := [(10, [0, 1, 2, 3, 4, 5, 6, 7, 8, 9, 10, 11, 12, 13, 14, 15, 16, 17, 18, 19, 20, 21, 22, 23, 24, 25, 26, 27, 28, 29, 30]), (25, [0, 2, 1, 3, 4, 5, 6, 7, 8, 9, 10, 11, 12, 13, 14, 15, 16, 17, 18, 19, 20, 21, 22, 23, 24, 25, 26, 27, 28, 29, 30, 31])] } cuts_ok 4 (by kernel_rfl) (fun P' E hP hE => ?_)
    cbv
    refine CallTo.w hP hE kg ⟨⟨cP_ok, rfl, rfl, by decide⟩, trivial⟩ ?_
    cbv
    refine fork.no h1 ?_
    cbv
    refine CallTo.w hP hE kg2 ⟨(by subst hE; exact Sm.of (c := cP) (all_tk (α := Pt) l)), trivial⟩ ?_
    cbv
    refine fork.no h2 ?_
    cbv
    refine fork.yes (by subst hE; exact h8y) ?_
    cbv
    refine awake_c hP hE ?_
    cbv
   ·have h8n : Env.std.ic .gtr (Env.std.len Pt l) 8 = false := by rw [s_gtr, s_len]; exact decide_eq_false (by omega)
    have hbl := bigL_is (hg.symm.trans h1)
    have hsa : IsP 40 s.a s.q.a := hbl s.a (by simp)
    have hsb : IsP 40 s.b s.q.b := hbl s.b (by simp)
    have hs : IsS 40 s s.q := ⟨hsa, hsb⟩
    have hp := bigL_is (hg2.symm.trans h2)
    obtain ⟨mc, emc, kmc⟩ := schk_p hs (by decide)
    by_cases hchk : mc = 0
    ·have hc0 : chkQ s.q = 0 := by rw [<- emc]; exact hchk
     have hok : splitE s.q l.length = 0 := by unfold splitE; rw [if_neg (by rw [hc0]; decide), if_neg (by omega)]
     have ks := split_q hs l hp (by decide) (by omega) (by omega) hok
     have hrs0 : (splitL s.q (l.map Pt.q)).map crS = (segsL (cutsL s.q (l.map Pt.q))).map crS := by rw [splitL, List.length_map, if_pos hok]
     rw [hrs0, hok] at ks
     have hbd : ∀ q ∈ cutsL s.q (l.map Pt.q), BdP 40 q := by
      intro q hq
      rcases mem_cuts.1 hq with e | e | e
      ·rw [e]; exact hs.a.b
      ·rw [e]; exact hs.b.b
      ·obtain ⟨p, h1, h2⟩ := List.mem_map.1 e.1
       rw [<- h2]; exact (hp p h1).b
     have hql : ∀ q ∈ l.map Pt.q, BdP 40 q := by
      intro q hq
      obtain ⟨p, h1, h2⟩ := List.mem_map.1 hq
      rw [<- h2]; exact (hp p h1).b
     have hcp := cuts_pos hc0 (l.map Pt.q)
     have hcl := cuts_len s.q (l.map Pt.q)
     rw [List.length_map] at hcl
     obtain ⟨n, hn⟩ : ∃ n : Int, n = (((segsL (cutsL s.q (l.map Pt.q))).map crS).length : Int) := ⟨_, rfl⟩
     have hn' : n = ((cutsL s.q (l.map Pt.q)).length : Int) - 1 := by rw [hn, List.length_map, segs_len]; omega
     have hn4 : n <= 4096 := by omega
     have hrnd1 : ∀ i w, CutI (cutsL s.q (l.map Pt.q)) n i w -> i < n -> ∃ x m0 v j i1 y w' e0, CutF s (cutsL s.q (l.map Pt.q)) (l.map Pt.q) ((segsL (cutsL s.q (l.map Pt.q))).map crS) n i w x m0 v j i1 y w' e0 := fun i w h hi => cutF_ex hs hql hc0 hn hn4 h hi
     have hfnd : ∀ p, p ∈ l -> ∀ v, v = onQ s.q p.q -> ∀ k, 0 <= k -> NoEnd (cutsL s.q (l.map Pt.q)) p.q k.toNat -> k < n -> ∃ y m1 m2 k', FndG (cutsL s.q (l.map Pt.q)) ((segsL (cutsL s.q (l.map Pt.q))).map crS) p v n k y m1 m2 k' := fun p h v hv k h0 h1 h2 => fndG_ex hc0 hn hn4 hbd (hp p h) (List.mem_map.2 ⟨p, h, rfl⟩) hv h0 h1 h2
     have hoff : ∀ p, p ∈ l -> ∀ k : Int, NoEnd (cutsL s.q (l.map Pt.q)) p.q k.toNat -> ¬ k < n -> onQ s.q p.q = false := fun p h k h1 h2 => noEnd_off hc0 (List.mem_map.2 ⟨p, h, rfl⟩) (by rw [hn, List.length_map] at h2; omega) h1
     have hx0 : Env.std.get Sg ((segsL (cutsL s.q (l.map Pt.q))).map crS) 0 zS = crS (wholeS (cutsL s.q (l.map Pt.q)) 0) := by
      show ((segsL (cutsL s.q (l.map Pt.q))).map crS).getD 0 zS = _
      rw [List.getD_eq_getElem?_getD, List.getElem?_map, segs_get (by omega)]; rfl
     obtain ⟨w0, hw0⟩ : ∃ w, w = crS (wholeS (cutsL s.q (l.map Pt.q)) 0) := ⟨_, rfl⟩
     rw [<- hw0] at hx0
     have hend : ∀ i w, CutI (cutsL s.q (l.map Pt.q)) n i w -> ¬ i < n -> ∃ n1 xl o ma mb, EndF s ((segsL (cutsL s.q (l.map Pt.q))).map crS) n n1 w w0 xl o ma mb := fun i w h hi => endF_ex hs hc0 hbd hn hn4 hw0 h hi
     obtain ⟨i0, hi0⟩ : ∃ i : Int, i = 0 := ⟨_, rfl⟩
     have hI0 : CutI (cutsL s.q (l.map Pt.q)) n i0 w0 := ⟨by omega, by omega, by rw [hw0, hi0]; rfl⟩
     obtain ⟨c, hcE⟩ : ∃ c, c = cutsL s.q (l.map Pt.q) := ⟨_, rfl⟩
     obtain ⟨rs, hrs⟩ : ∃ r, r = (segsL (cutsL s.q (l.map Pt.q))).map crS := ⟨_, rfl⟩
     rw [<- hrs] at ks hn hx0
     rw [<- hrs] at hrnd1 hfnd hend
     rw [<- hcE] at hI0 hrnd1 hfnd hoff hend
     have hlen : ¬ Env.std.ic .eql (Env.std.len Sg rs) 0 = true := by rw [s_eql, s_len, <- hn]; simp; omega
     have in0 : 0 <= (0 : Int) /\ (0 : Int) < (rs.length : Int) := ⟨by omega, by omega⟩
     obtain ⟨nl, hnl⟩ : ∃ n : Int, n = (l.length : Int) := ⟨_, rfl⟩
     have hrnd2 : ∀ i, 0 <= i -> i < nl -> ∃ p v j, PtF s l nl i p v j := fun i h0 h1 => ptF_ex hs hp (by omega) hnl h0 h1
     have hfnd1 : ∀ a, IsP 40 a a.q -> ∀ i, 0 <= i -> (∀ k, k < i.toNat -> (l.getD k z0).q ≠ a.q) -> i < nl -> ∃ p m j, FndF l a nl i p m j := fun a ha i h0 h1 h2 => fndF_ex hp (by omega) ha hnl h0 h1 h2
     have hnot : ∀ (a : Pt) (i : Int), (∃ q ∈ l.map Pt.q, a = crP q) -> (∀ k, k < i.toNat -> (l.getD k z0).q ≠ a.q) -> ¬ i < nl -> False := by
      rintro a i ⟨q, hq, rfl⟩ h1 h2
      obtain ⟨p, hpm, rfl⟩ := List.mem_map.1 hq
      obtain ⟨k, hk, e⟩ := List.mem_iff_getElem.1 hpm
      refine h1 k (by omega) ?_
      rw [List.getD_eq_getElem?_getD, List.getElem?_eq_getElem hk, e]
      unfold crP Pt.q
      simp only [Option.getD_some, cr_q]
     clear hbl hp hbd hql hcp hcl hn' hw0 hrs0 hok hbig hbig2 h8 hg hg2 hsa hsb hl
     refine Con.of ttOk mixed Tryz.func14 { ord := [(10, [0, 1, 2, 3, 4, 5, 6, 7, 8, 9, 10, 11, 12, 13, 14, 15, 16, 17, 18, 19, 20, 21, 22, 23, 24, 25, 26, 27, 28, 29, 30]), (25, [0, 2, 1, 3, 4, 5, 6, 7, 8, 9, 10, 11, 12, 13, 14, 15, 16, 17, 18, 19, 20, 21, 22, 23, 24, 25, 26, 27, 28, 29, 30, 31])] } cuts_ok 4 (by kernel_rfl) (fun P' E hP hE => ?_)
     cbv
     refine CallTo.w hP hE kg ⟨⟨cP_ok, rfl, rfl, by decide⟩, trivial⟩ ?_
     cbv
     refine fork.no h1 ?_
     cbv
     refine CallTo.w hP hE kg2 ⟨(by subst hE; exact Sm.of (c := cP) (all_tk (α := Pt) l)), trivial⟩ ?_
     cbv
     refine fork.no h2 ?_
     cbv
     refine fork.no (by subst hE; exact h8n) ?_
     cbv
     refine CallTo.w hP hE kmc ⟨rfl, trivial⟩ ?_
     cbv
     refine fork.no (by subst hE; simp [Env.std, hchk]) ?_
     cbv
     refine CallTo.con hP hE ks ⟨rfl, (by subst hE; exact Sm.of (c := cP) (all_tk (α := Pt) l)), trivial⟩ ?_
     cbv
     refine fork.no (by subst hE; simp [Env.std]) ?_
     cbv
     refine fork.mk (fun e => absurd (by subst hE; exact e) hlen) (fun _ => ?_)
     cbv
     refine Need.mk (by subst hE; exact in0) ?_
     cbv
     refine LoopTo.by (ι := Int × Sg) (fun x => [(53, .v (.int .i64 n)), (54, .v (.int .i64 x.1))]) (fun x => [(5, .cells x.2.av 27)]) (fun x => CutI c n x.1 x.2) (fun x => (n - x.1).toNat) (i0, w0) [] hI0 ?_ ?_
     ·cbv
      subst hE
      and_intros
      all_goals first
       | exact True.intro
       | rfl
       | exact congrArg (fun x => AV.v (Value.int .i64 x)) hn.symm
       | exact congrArg (fun x => Value.int .i64 x) hn.symm
       | exact congrArg (fun x => AV.v (Value.int .i64 x)) hi0.symm
       | exact congrArg (fun x => Value.int .i64 x) hi0.symm
       | exact congrArg (fun w : Sg => AV.v (Value.bool w.a.x.neg)) hx0
       | exact congrArg (fun w : Sg => AV.v (Value.string w.a.x.num)) hx0
       | exact congrArg (fun w : Sg => AV.v (Value.string w.a.x.den)) hx0
       | exact congrArg (fun w : Sg => AV.v (Value.bool w.a.y.neg)) hx0
       | exact congrArg (fun w : Sg => AV.v (Value.string w.a.y.num)) hx0
       | exact congrArg (fun w : Sg => AV.v (Value.string w.a.y.den)) hx0
       | exact congrArg (fun w : Sg => AV.v (Value.bool w.b.x.neg)) hx0
       | exact congrArg (fun w : Sg => AV.v (Value.string w.b.x.num)) hx0
       | exact congrArg (fun w : Sg => AV.v (Value.string w.b.x.den)) hx0
       | exact congrArg (fun w : Sg => AV.v (Value.bool w.b.y.neg)) hx0
       | exact congrArg (fun w : Sg => AV.v (Value.string w.b.y.num)) hx0
       | exact congrArg (fun w : Sg => AV.v (Value.string w.b.y.den)) hx0
       | (simp; done)
       | fail
     ·rintro ⟨i, w⟩ hi
      have hi : CutI c n i w := hi
      clear hI0
      cbv
      refine fork.mk ?_ ?_
      ·intro g3
       have hlt : i < n := by subst hE; simpa [Env.std] using g3
       refine Exists.elim (hrnd1 i w hi hlt) ?_
       intro x h
       refine Exists.elim h ?_
       intro m0 h
       refine Exists.elim h ?_
       intro v h
       refine Exists.elim h ?_
       intro j h
       refine Exists.elim h ?_
       intro i1 h
       refine Exists.elim h ?_
       intro y h
       refine Exists.elim h ?_
       intro w' h
       refine Exists.elim h ?_
       intro e0 hf
       have hn : n = (rs.length : Int) := hn
       have in1 : 0 <= i /\ i < (rs.length : Int) := by rw [<- hn]; exact hf.in1
       have hget := hf.g1
       have kchk := hf.chk
       have hm0 := hf.m0
       have kon := hf.on
       have hv := hf.v
       have hadd := hf.add
       have in2 : 0 < i -> 0 <= Env.std.ib .sub .i64 i 1 /\ Env.std.ib .sub .i64 i 1 < (rs.length : Int) := fun h => by rw [hf.sub, <- hn]; exact hf.in2 h
       have heq : 0 < i -> (Env.std.get Sg rs (Env.std.ib .sub .i64 i 1) zS).b = (Env.std.get Sg rs i zS).a := fun h => by rw [hf.sub, hf.g2, hget]; exact hf.eqb h
       have hmem0 := hf.mem
       have hisx := hf.isx
       have kj := hf.join
       have he00 := hf.e0
       have hst0 := hf.st0
       have hst10 := hf.st1
       have hmu := hf.mu
       obtain ⟨f0, hf0⟩ : ∃ k : Int, k = 0 := ⟨_, rfl⟩
       clear hf h hlt g3 hi hend
       cbv
       refine Need.mk (by subst hE; exact in1) ?_
       cbv
       refine CallTo.w hP hE kchk ⟨(by subst hE; exact congrArg (fun p : Sg => p.v) hget), trivial⟩ ?_
       cbv
       refine fork.no (by subst hE; simp [Env.std, hm0]) ?_
       cbv
       refine CallTo.w hP hE kon ⟨rfl, (by subst hE; exact congrArg (fun p : Sg => p.a.v) hget), trivial⟩ ?_
       cbv
       refine fork.no (by subst hE; simp [Env.std, hv]) ?_
       cbv
       refine fork.mk ?_ ?_
       ·intro g4
        have hpos : 0 < i := by subst hE; simpa [Env.std] using g4
        have in2 := in2 hpos
        have heq := heq hpos
        have hmem := hmem0 hpos
        have he0 := he00 hpos
        have hst1 := hst10 hpos
        clear hst0 hst10 he00 hmem0 g4
        cbv
        refine Need.mk (by subst hE; exact in2) ?_
        cbv
        refine fork.no (by
         subst hE
         show (!eqCells (Env.std.get Sg rs (Env.std.ib .sub .i64 i 1) zS).b.c (Env.std.get Sg rs i zS).a.c) = false
         rw [(eqc_P _ _).2 heq]; rfl) ?_
        have hnl : nl = (l.length : Int) := hnl
        have hF0 : 0 <= f0 /\ f0 <= nl /\ ∀ k, k < f0.toNat -> (l.getD k z0).q ≠ x.a.q := ⟨by omega, by omega, by rw [hf0]; intro k hk; exact absurd hk (Nat.not_lt_zero _)⟩
        cbv
        refine LoopTo.by (ι := Int) (fun x => [(7, .v (.int .i64 nl)), (8, .v (.int .i64 x))]) (fun x => []) (fun y => 0 <= y /\ y <= nl /\ ∀ k, k < y.toNat -> (l.getD k z0).q ≠ x.a.q) (fun x => (nl - x).toNat) f0 [] hF0 ?_ ?_
        ·cbv
         subst hE
         and_intros
         all_goals first
          | exact True.intro
          | rfl
          | exact congrArg (fun x => AV.v (Value.int .i64 x)) hnl.symm
          | exact congrArg (fun x => Value.int .i64 x) hnl.symm
          | exact congrArg (fun x => AV.v (Value.int .i64 x)) hf0.symm
          | exact congrArg (fun x => Value.int .i64 x) hf0.symm
          | (simp; done)
          | fail
        ·intro k hk
         have hk : 0 <= k /\ k <= nl /\ ∀ t, t < k.toNat -> (l.getD t z0).q ≠ x.a.q := hk
         clear hF0
         cbv
         refine fork.mk ?_ ?_
         ·intro g6
          have hnl : nl = (l.length : Int) := hnl
          have hlt : k < nl := by subst hE; simpa [Env.std] using g6
          refine Exists.elim (hfnd1 x.a hisx k hk.1 hk.2.2 hlt) ?_
          intro p h
          refine Exists.elim h ?_
          intro m h
          refine Exists.elim h ?_
          intro k' hg
          have in3 := hg.in1
          have hgp := hg.g1
          have kc := hg.cmp
          have hak := hg.add
          have hst9 := hg.st
          have hmk := hg.mu
          have hk0 : 0 <= k := hg.i0
          clear hg h hlt g6 hk
          cbv
          refine Need.mk (by subst hE; exact in3) ?_
          cbv
          refine CallTo.w hP hE kc ⟨(by subst hE; exact congrArg (fun p : Pt => p.v) hgp), (by subst hE; exact congrArg (fun p : Sg => p.a.v) hget), trivial⟩ ?_
          cbv
          refine fork.mk ?_ ?_
          ·intro g7
           cbv
           refine fork.no (by subst hE; simp [Env.std]; omega) ?_
           cbv
           refine fork.yes (by subst hE; simp [Env.std]; omega) ?_
           cbv
           refine CallTo.w hP hE kj ⟨rfl, (by subst hE; exact congrArg (fun p : Sg => p.v) hget), trivial⟩ ?_
           cbv
           refine fork.no (by subst hE; simp [Env.std, he0]) ?_
           cbv
           refine ⟨(j, w'), [], hst1, hmu, ?_⟩
           cbv
           subst hE
           and_intros
           all_goals first
            | exact True.intro
            | rfl
            | exact congrArg (fun x => AV.v (Value.int .i64 x)) hadd
            | exact congrArg (fun x => Value.int .i64 x) hadd
            | (simp; done)
            | fail
          ·intro g7
           have q1 : m ≠ 0 := by subst hE; simpa [Env.std] using g7
           have hst8 := hst9 q1
           cbv
           refine ⟨k', [], hst8, hmk, ?_⟩
           cbv
           subst hE
           and_intros
           all_goals first
            | exact True.intro
            | rfl
            | exact congrArg (fun x => AV.v (Value.int .i64 x)) hak
            | exact congrArg (fun x => Value.int .i64 x) hak
            | (simp; done)
            | fail
         ·intro g6
          have hnl : nl = (l.length : Int) := hnl
          have hge : ¬ k < nl := by subst hE; simpa [Env.std] using g6
          exact (hnot x.a k hmem hk.2.2 hge).elim
       ·intro g4
        have hpos : ¬ 0 < i := by subst hE; simpa [Env.std] using g4
        have hst := hst0 hpos
        clear hst0 hst10 he00 hmem0 in2 heq g4
        cbv
        refine fork.no (by subst hE; simp [Env.std]; omega) ?_
        cbv
        refine ⟨(j, w), [], hst, hmu, ?_⟩
        cbv
        subst hE
        and_intros
        all_goals first
         | exact True.intro
         | rfl
         | exact congrArg (fun x => AV.v (Value.int .i64 x)) hadd
         | exact congrArg (fun x => Value.int .i64 x) hadd
         | (simp; done)
         | fail
      ·intro g3
       have hge : ¬ i < n := by subst hE; simpa [Env.std] using g3
       cbv
       refine Exists.elim (hend i w hi hge) ?_
       intro n1 h
       refine Exists.elim h ?_
       intro xl h
       refine Exists.elim h ?_
       intro o h
       refine Exists.elim h ?_
       intro ma h
       refine Exists.elim h ?_
       intro mb hf
       have ko1 := hf.o1
       have ko2 := hf.o2
       have kca := hf.ca
       have kcb := hf.cb
       have hma := hf.ma
       have hmb := hf.mb
       have hgl : Env.std.get Sg rs (Env.std.ib .sub .i64 n 1) zS = xl := by rw [hf.sub]; exact hf.gl
       have in9 : 0 <= Env.std.ib .sub .i64 (Env.std.len Sg rs) 1 /\ Env.std.ib .sub .i64 (Env.std.len Sg rs) 1 < (rs.length : Int) := by
        have hn : n = (rs.length : Int) := hn
        rw [s_len, <- hn, hf.sub]; exact hf.in1
       have hgl : Env.std.get Sg rs (Env.std.ib .sub .i64 (Env.std.len Sg rs) 1) zS = xl := by
        have hn : n = (rs.length : Int) := hn
        rw [s_len, <- hn]; exact hgl
       obtain ⟨i9, hi9⟩ : ∃ i : Int, i = 0 := ⟨_, rfl⟩
       clear hf h hi hge hend hrnd1 hfnd1 hnot g3
       have hn9 : nl = (l.length : Int) := hnl
       have hJ0 : 0 <= i9 /\ i9 <= nl := ⟨by omega, by omega⟩
       cbv
       refine LoopTo.by (ι := Int) (fun x => [(103, .v (.int .i64 nl)), (104, .v (.int .i64 x))]) (fun x => []) (fun x => 0 <= x /\ x <= nl) (fun x => (nl - x).toNat) i9 [] hJ0 ?_ ?_
       ·cbv
        subst hE
        and_intros
        all_goals first
         | exact True.intro
         | rfl
         | exact congrArg (fun x => AV.v (Value.int .i64 x)) hn9.symm
         | exact congrArg (fun x => Value.int .i64 x) hn9.symm
         | exact congrArg (fun x => AV.v (Value.int .i64 x)) hi9.symm
         | exact congrArg (fun x => Value.int .i64 x) hi9.symm
         | (simp; done)
         | fail
       ·intro i hi9
        have hi9 : 0 <= i /\ i <= nl := hi9
        clear hJ0
        cbv
        refine fork.mk ?_ ?_
        ·intro g5
         have hn9 : nl = (l.length : Int) := hn9
         have hlt : i < nl := by subst hE; simpa [Env.std] using g5
         refine Exists.elim (hrnd2 i hi9.1 hlt) ?_
         intro p h
         refine Exists.elim h ?_
         intro v h
         refine Exists.elim h ?_
         intro j hf
         have in1 := hf.in1
         have hget := hf.g1
         have kon := hf.on
         have hv := hf.ev
         have hm := hf.m
         have hadd := hf.add
         have hst : 0 <= j /\ j <= nl := ⟨hf.j0, hf.j1⟩
         have hmu := hf.mu
         obtain ⟨k0, hk0⟩ : ∃ k : Int, k = 0 := ⟨_, rfl⟩
         clear hf h hlt g5
         have hK0 : 0 <= k0 /\ k0 <= n /\ NoEnd c p.q k0.toNat := ⟨by omega, by omega, by rw [hk0]; intro t ht; exact absurd ht (Nat.not_lt_zero _)⟩
         cbv
         refine Need.mk (by subst hE; exact in1) ?_
         cbv
         refine LoopTo.by (ι := Int) (fun x => [(7, .v (.int .i64 n)), (8, .v (.int .i64 x))]) (fun x => []) (fun x => 0 <= x /\ x <= n /\ NoEnd c p.q x.toNat) (fun x => (n - x).toNat) k0 [] hK0 ?_ ?_
         ·cbv
          subst hE
          and_intros
          all_goals first
           | exact True.intro
           | rfl
           | exact congrArg (fun x => AV.v (Value.int .i64 x)) hn.symm
           | exact congrArg (fun x => Value.int .i64 x) hn.symm
           | exact congrArg (fun x => AV.v (Value.int .i64 x)) hk0.symm
           | exact congrArg (fun x => Value.int .i64 x) hk0.symm
           | (simp; done)
           | fail
         ·intro k hk
          have hk : 0 <= k /\ k <= n /\ NoEnd c p.q k.toNat := hk
          clear hK0
          cbv
          refine fork.mk ?_ ?_
          ·intro g6
           have hlt : k < n := by subst hE; simpa [Env.std] using g6
           refine Exists.elim (hfnd p hm v hv k hk.1 hk.2.2 hlt) ?_
           intro y h
           refine Exists.elim h ?_
           intro m1 h
           refine Exists.elim h ?_
           intro m2 h
           refine Exists.elim h ?_
           intro k' hg
           have in3 : 0 <= k /\ k < (rs.length : Int) := by
            have hn : n = (rs.length : Int) := hn
            rw [<- hn]; exact hg.in1
           have hgy := hg.g1
           have k1 := hg.c1
           have k2 := hg.c2
           have hak := hg.add
           have hyes := hg.yes
           have hno := hg.no
           have hmk := hg.mu
           clear hg h hlt g6
           cbv
           refine Need.mk (by subst hE; exact in3) ?_
           cbv
           refine CallTo.w hP hE k1 ⟨(by subst hE; exact congrArg (fun p : Sg => p.a.v) hgy), (by subst hE; exact congrArg (fun p : Pt => p.v) hget), trivial⟩ ?_
           cbv
           refine fork.mk ?_ ?_
           ·intro g7
            have q1 : m1 = 0 := by subst hE; simpa [Env.std] using g7
            have hvt := hyes (.inl q1)
            have hk0 : 0 <= k := hk.1
            cbv
            refine CallTo.w hP hE kon ⟨rfl, (by subst hE; exact congrArg (fun p : Pt => p.v) hget), trivial⟩ ?_
            cbv
            refine fork.no (by subst hE; simp [Env.std, hvt]; omega) ?_
            cbv
            refine ⟨j, [], hst, hmu, ?_⟩
            cbv
            subst hE
            and_intros
            all_goals first
             | exact True.intro
             | rfl
             | exact congrArg (fun x => AV.v (Value.int .i64 x)) hadd
             | exact congrArg (fun x => Value.int .i64 x) hadd
             | (simp; done)
             | fail
           ·intro g7
            have q1 : m1 ≠ 0 := by subst hE; simpa [Env.std] using g7
            cbv
            refine CallTo.w hP hE k2 ⟨(by subst hE; exact congrArg (fun p : Sg => p.b.v) hgy), (by subst hE; exact congrArg (fun p : Pt => p.v) hget), trivial⟩ ?_
            cbv
            refine fork.mk ?_ ?_
            ·intro g8
             have q2 : m2 = 0 := by subst hE; simpa [Env.std] using g8
             have hvt := hyes (.inr q2)
             have hk0 : 0 <= k := hk.1
             cbv
             refine CallTo.w hP hE kon ⟨rfl, (by subst hE; exact congrArg (fun p : Pt => p.v) hget), trivial⟩ ?_
             cbv
             refine fork.no (by subst hE; simp [Env.std, hvt]; omega) ?_
             cbv
             refine ⟨j, [], hst, hmu, ?_⟩
             cbv
             subst hE
             and_intros
             all_goals first
              | exact True.intro
              | rfl
              | exact congrArg (fun x => AV.v (Value.int .i64 x)) hadd
              | exact congrArg (fun x => Value.int .i64 x) hadd
              | (simp; done)
              | fail
            ·intro g8
             have q2 : m2 ≠ 0 := by subst hE; simpa [Env.std] using g8
             have hst9 := hno q1 q2
             cbv
             refine ⟨k', [], hst9, hmk, ?_⟩
             cbv
             subst hE
             and_intros
             all_goals first
              | exact True.intro
              | rfl
              | exact congrArg (fun x => AV.v (Value.int .i64 x)) hak
              | exact congrArg (fun x => Value.int .i64 x) hak
              | (simp; done)
              | fail
          ·intro g6
           have hge : ¬ k < n := by subst hE; simpa [Env.std] using g6
           have hvf : v = false := by rw [hv]; exact hoff p hm k hk.2.2 hge
           cbv
           refine CallTo.w hP hE kon ⟨rfl, (by subst hE; exact congrArg (fun p : Pt => p.v) hget), trivial⟩ ?_
           cbv
           refine fork.no (by subst hE; simp [Env.std, hvf]) ?_
           cbv
           refine ⟨j, [], hst, hmu, ?_⟩
           cbv
           subst hE
           and_intros
           all_goals first
            | exact True.intro
            | rfl
            | exact congrArg (fun x => AV.v (Value.int .i64 x)) hadd
            | exact congrArg (fun x => Value.int .i64 x) hadd
            | (simp; done)
            | fail
        ·intro g5
         cbv
         refine CallTo.w hP hE ko1 ⟨rfl, trivial⟩ ?_
         cbv
         refine CallTo.w hP hE ko2 ⟨rfl, trivial⟩ ?_
         cbv
         refine fork.yes (by subst hE; exact (eqc_S o o).2 rfl) ?_
         cbv
         refine Need.mk (by subst hE; exact in0) ?_
         cbv
         refine CallTo.w hP hE kca ⟨(by subst hE; exact congrArg (fun p : Sg => p.a.v) hx0), rfl, trivial⟩ ?_
         cbv
         refine fork.yes (by subst hE; simp [Env.std, hma]) ?_
         cbv
         refine Need.mk (by subst hE; exact in9) ?_
         cbv
         refine CallTo.w hP hE kcb ⟨(by subst hE; exact congrArg (fun p : Sg => p.b.v) hgl), rfl, trivial⟩ ?_
         cbv
         refine fork.yes (by subst hE; simp [Env.std, hmb]) ?_
         cbv
         refine awake_c hP hE ?_
         cbv
    ·refine Con.of ttOk mixed Tryz.func14 { ord := [(10, [0, 1, 2, 3, 4, 5, 6, 7, 8, 9, 10, 11, 12, 13, 14, 15, 16, 17, 18, 19, 20, 21, 22, 23, 24, 25, 26, 27, 28, 29, 30]), (25, [0, 2, 1, 3, 4, 5, 6, 7, 8, 9, 10, 11, 12, 13, 14, 15, 16, 17, 18, 19, 20, 21, 22, 23, 24, 25, 26, 27, 28, 29, 30, 31])] } cuts_ok 4 (by kernel_rfl) (fun P' E hP hE => ?_)
     cbv
     refine CallTo.w hP hE kg ⟨⟨cP_ok, rfl, rfl, by decide⟩, trivial⟩ ?_
     cbv
     refine fork.no h1 ?_
     cbv
     refine CallTo.w hP hE kg2 ⟨(by subst hE; exact Sm.of (c := cP) (all_tk (α := Pt) l)), trivial⟩ ?_
     cbv
     refine fork.no h2 ?_
     cbv
     refine fork.no (by subst hE; exact h8n) ?_
     cbv
     refine CallTo.w hP hE kmc ⟨rfl, trivial⟩ ?_
     cbv
     refine fork.yes (by subst hE; simp [Env.std, hchk]) ?_
     cbv
     refine awake_c hP hE ?_
     cbv
end Go.Proofs.YtfdealobplcboaaGreat.Sx

set_option linter.unusedVariables false
set_option linter.unusedSimpArgs false
namespace Go.Proofs.YtfdealobplcboaaGreat.segmentCuts
open Go.ChangeShapes Go.WideShapes Go.ChangeAt Go.RowKit Go.Proofs.YtfdealobplcboaaGreat.Sx
set_option maxRecDepth 100000 in
theorem lifted (os : Os) (started : os.Started) (H : Type) (enc : TypeId × Value -> H) :
  ReturnsInHanded {} Tryz.checked os 14 .any (Rows.segmentCutsSpec.pre6 enc Tryz.prog Tryz.f14 Rows.segmentCutsRow.domain false) (Rows.segmentCutsSpec.post enc Tryz.prog Tryz.f14 false true false false) := by
 refine returnsInHanded_of_change_sized (C := Tryz.checked) own' started (by kernel_rfl) Tryz.func14
  (ChangeSpec.witness6 (enc := enc) (C := Tryz.checked) false ⟨#[], #[.agg #[.bool false, .string ByteArray.empty, .string ByteArray.empty, .bool false, .string ByteArray.empty, .string ByteArray.empty, .bool false, .string ByteArray.empty, .string ByteArray.empty, .bool false, .string ByteArray.empty, .string ByteArray.empty], .slice none 0 0], []⟩ 8 (by kernel_rfl) (by kernel_rfl) (by kernel_rfl) (by kernel_rfl)) ?_
 intro W base args ds gs before hval0 hW hcnd hsz0 _
 have hval : ∀ (j : Nat) t v, Tryz.f14.params[j]? = some t -> args[j]? = some v -> Value.okWide Tryz.prog W .any base t v := hval0
 have hW' := hW
 obtain ⟨p, q, hA0, hV, rfl, hfz, hnd⟩ := hW
 have hA : DataW.TrodAll enc Tryz.prog W 0 (fun _ => true) true Tryz.f14.params.toList args.toList ds p := hA0
 rw [Tryz.params14] at hA hval
 obtain ⟨v0, vs0, d0, ds0, p0, q0, hargs, rfl, rfl, h0, r0⟩ := trodAll_cons hA
 obtain ⟨v1, vs1, d1, ds1, p1, q1, rfl, rfl, rfl, h1, r1⟩ := trodAll_cons r0
 obtain ⟨rfl, rfl, rfl⟩ := trodAll_nil r1
 obtain rfl : args = #[v0, v1] := by cases args; simp_all
 obtain ⟨rfl, rfl⟩ := trodVars_none hV
 obtain ⟨a0, rfl⟩ := open_S (hval 0 27 v0 rfl rfl) h0
 have lt0 := trod_lt' h0
 obtain ⟨a1, o1, k1, rfl, le1, ml1, rd1⟩ := open_L (hval 1 36 v1 rfl rfl) h1
 have lt1 := trod_lt' h1
 clear hA0 hval0 hsz0
 obtain ⟨_, hc⟩ := (segmentCuts_con a0 a1 (Nat.le_trans le1 ml1)).out W #[a0.v, .slice o1 a1.length k1] (by simp only [T.ats, T.at]; exact ⟨_, _, rfl, rfl, ⟨_, _, rfl, ⟨cP_ok, _, _, rfl, le1, rd1, fun _ _ => Nat.zero_le _⟩, rfl⟩⟩)
 refine hc.mono fun e W' he => ?_
 obtain ⟨v, rfl, hv, bel⟩ := he
 simp only [T.at] at hv
 subst hv
 exact ⟨_, rfl, _, _, _, [], _, [], hW', trodAll_mk1 (shut_bool Tryz.underlying4 _), (trodAll_cons_mk (Below.trod laidOut' (by kernel_rfl) (of_decide_eq_true (by kernel_rfl)) h0 bel lt0) (trodAll_cons_mk (Below.trod laidOut' (by kernel_rfl) (of_decide_eq_true (by kernel_rfl)) h1 bel lt1) trodAll_mk0)), rfl, bel.frame _, fun h => by cases h⟩
end Go.Proofs.YtfdealobplcboaaGreat.segmentCuts
