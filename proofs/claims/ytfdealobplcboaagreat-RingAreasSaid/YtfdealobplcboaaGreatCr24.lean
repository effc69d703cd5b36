/- Part 24 of what the statement needs: an executor of Go texts, arithmetic, and contracts of the functions that are called. -/
import Derived.Test.YtfdealobplcboaaGreatCr23
set_option linter.unusedVariables false
set_option linter.unusedSimpArgs false
namespace Go.Proofs.YtfdealobplcboaaGreat.Sx
/-- The element of a list of points at a place. -/
def at' (l : List Pq) (i : Nat) : Pq := l.getD i Pq.zero
theorem at_set {l : List Pq} {i j : Nat} {p : Pq} (h : i < l.length) : at' (l.set i p) j = if i = j then p else at' l j := by
 unfold at'
 rw [List.getD_eq_getElem?_getD, List.getD_eq_getElem?_getD, List.getElem?_set]
 by_cases e : i = j
 ·subst e; simp [h]
 ·simp [e]
theorem at_mem {l : List Pq} {i : Nat} (h : i < l.length) : at' l i ∈ l := by
 unfold at'; rw [List.getD_eq_getElem?_getD, List.getElem?_eq_getElem h]; exact List.getElem_mem h
theorem at_map {l : List Pq} {i : Nat} (h : i < l.length) (z : Pt) : (l.map crP).getD i z = crP (at' l i) := by
 unfold at'
 rw [List.getD_eq_getElem?_getD, List.getD_eq_getElem?_getD, List.getElem?_map, List.getElem?_eq_getElem h]; rfl
/-- Two elements of a list change places. -/
def swp (l : List Pq) (i j : Nat) : List Pq := (l.set i (at' l j)).set j (at' l i)
theorem swp_len (l : List Pq) (i j : Nat) : (swp l i j).length = l.length := by unfold swp; simp
theorem swp_at {l : List Pq} {i j k : Nat} (hi : i < l.length) (hj : j < l.length) : at' (swp l i j) k = if j = k then at' l i else if i = k then at' l j else at' l k := by
 unfold swp
 rw [at_set (by simpa using hj), at_set hi]
/-- Reverse, a round: what lies outside is turned. -/
structure RevI (l0 l : List Pq) (i : Nat) (j : Int) : Prop where
 len : l.length = l0.length
 sum : (i : Int) + j = (l0.length : Int) - 1
 le : (i : Int) <= j + 1
 out : ∀ k, k < l0.length -> (k < i \/ j < k) -> at' l k = at' l0 (l0.length - 1 - k)
 inn : ∀ k, i <= k -> (k : Int) <= j -> at' l k = at' l0 k
theorem at_ext {l l' : List Pq} (h : l.length = l'.length) (e : ∀ k, k < l.length -> at' l k = at' l' k) : l = l' := by
 apply List.ext_getElem h
 intro k h1 h2
 have := e k h1
 unfold at' at this
 rw [List.getD_eq_getElem?_getD, List.getD_eq_getElem?_getD, List.getElem?_eq_getElem h1, List.getElem?_eq_getElem h2] at this
 exact this
theorem at_rev {l : List Pq} {k : Nat} (h : k < l.length) : at' l.reverse k = at' l (l.length - 1 - k) := by
 unfold at'
 rw [List.getD_eq_getElem?_getD, List.getD_eq_getElem?_getD, List.getElem?_reverse h]
theorem RevI.first (l : List Pq) : RevI l l 0 ((l.length : Int) - 1) := ⟨rfl, by omega, by omega, fun k h1 h2 => by omega, fun _ _ _ => rfl⟩
theorem RevI.step {l0 l : List Pq} {i : Nat} {j : Int} (h : RevI l0 l i j) (hc : (i : Int) < j) : RevI l0 (swp l i j.toNat) (i + 1) (j - 1) := by
 have h1 := h.sum
 have h2 := h.len
 have hi : i < l.length := by omega
 have hj : j.toNat < l.length := by omega
 refine ⟨by rw [swp_len]; exact h.len, by omega, by omega, fun k hk ho => ?_, fun k h3 h4 => ?_⟩
 ·rw [swp_at hi hj]
  by_cases c1 : j.toNat = k
  ·rw [if_pos c1, h.inn i (by omega) (by omega)]; congr 1; omega
  ·rw [if_neg c1]
   by_cases c2 : i = k
   ·rw [if_pos c2, h.inn j.toNat (by omega) (by omega)]; congr 1; omega
   ·rw [if_neg c2]; exact h.out k hk (by omega)
 ·rw [swp_at hi hj, if_neg (by omega), if_neg (by omega)]; exact h.inn k (by omega) (by omega)
theorem RevI.done {l0 l : List Pq} {i : Nat} {j : Int} (h : RevI l0 l i j) (hc : ¬ (i : Int) < j) : l = l0.reverse := by
 refine at_ext (by rw [h.len, List.length_reverse]) (fun k hk => ?_)
 have h1 := h.sum
 have h2 := h.len
 have h3 := h.le
 rw [at_rev (by omega)]
 by_cases c : k < i \/ j < k
 ·exact h.out k (by omega) c
 ·rw [h.inn k (by omega) (by omega)]; congr 1; omega
end Go.Proofs.YtfdealobplcboaaGreat.Sx

set_option linter.unusedVariables false
set_option linter.unusedSimpArgs false
namespace Go.Proofs.YtfdealobplcboaaGreat.Sx
def edgeQ (l : List Pq) (i : Nat) : Sq := ⟨at' l i, at' l ((i + 1) % l.length)⟩
def edgesQ (l : List Pq) : List Sq := (List.range l.length).map (edgeQ l)
def sumE (f : Sq -> Rat) (es : List Sq) : Rat := es.foldl (fun s e => s + f e) 0
def sumP (f : Sq -> Pq) (es : List Sq) : Pq := es.foldl (fun s e => s.add (f e)) Pq.zero
def crE (e : Sq) : Rat := e.a.cross e.b
def areaQ (l : List Pq) : Rat := sumE crE (edgesQ l) / ((2 : Int) : Rat)
def upQ (q p : Pq) : Bool := decide (0 < cmpQ q.y p.y)
/-- Does an edge cross the ray from p to the right? -/
def oddE (p : Pq) (e : Sq) : Bool := if upQ e.a p = true then (!upQ e.b p && (upQ e.a p && decide (0 < orQ e.b e.a p))) else (!upQ e.a p && (upQ e.b p && decide (0 < orQ e.a e.b p)))
def parE (p : Pq) (es : List Sq) : Bool := es.foldl (fun b e => if oddE p e = true then !b else b) false
def oddQ (l : List Pq) (p : Pq) : Bool := parE p (edgesQ l)
def onE (l : List Pq) (p : Pq) : Bool := (edgesQ l).any fun e => btwQ e.a e.b p
def sideQ (l : List Pq) (p : Pq) : Int := if onE l p = true then 0 else if oddQ l p = true then 1 else -1
def flatAt (l : List Pq) (i : Nat) : Bool := decide (orQ (at' l ((i + l.length - 1) % l.length)) (at' l i) (at' l ((i + 1) % l.length)) = 0)
def crossAt (l : List Pq) (i k : Nat) : Bool := !(decide (i = 0) && decide (k = l.length - 1)) && meetB (edgeQ l i) (edgeQ l k)
def crossB (l : List Pq) : Bool := (List.range l.length).any fun i => (List.range l.length).any fun k => decide (i + 2 <= k) && crossAt l i k
def firstI (l : List Pq) : Nat := (List.range l.length).foldl (fun k i => if cmpP (at' l i) (at' l k) < 0 then i else k) 0
def remAt (l : List Pq) (i : Nat) : Bool := decide (cmpP (at' l i) (at' l ((i + 1) % l.length)) = 0) || flatAt l i
def centE (e : Sq) : Pq := (e.a.add e.b).scale (crE e)
def centQ (l : List Pq) : Pq := (sumP centE (edgesQ l)).scale (((1 : Int) : Rat) / (((6 : Int) : Rat) * areaQ l))
theorem edges_len (l : List Pq) : (edgesQ l).length = l.length := by unfold edgesQ; simp
theorem edges_take {l : List Pq} {i : Nat} (h : i < l.length) : (edgesQ l).take (i + 1) = (edgesQ l).take i ++ [edgeQ l i] := by
 rw [List.take_add_one]
 congr 1
 unfold edgesQ
 rw [List.getElem?_map, List.getElem?_eq_getElem (by simpa using h)]
 simp
theorem edges_all {l : List Pq} {i : Nat} (h : l.length <= i) : (edgesQ l).take i = edgesQ l := List.take_of_length_le (by rw [edges_len]; exact h)
theorem sumE_snoc (f : Sq -> Rat) (es : List Sq) (e : Sq) : sumE f (es ++ [e]) = sumE f es + f e := by unfold sumE; rw [List.foldl_append]; rfl
theorem sumP_snoc (f : Sq -> Pq) (es : List Sq) (e : Sq) : sumP f (es ++ [e]) = (sumP f es).add (f e) := by unfold sumP; rw [List.foldl_append]; rfl
theorem parE_snoc (p : Pq) (es : List Sq) (e : Sq) : parE p (es ++ [e]) = if oddE p e = true then !parE p es else parE p es := by unfold parE; rw [List.foldl_append]; rfl
theorem at_bd {k : Nat} {l : List Pq} (h : ∀ p ∈ l, BdP k p) {i : Nat} (hi : i < l.length) : BdP k (at' l i) := h _ (at_mem hi)
theorem edge_bd {k : Nat} {l : List Pq} (h : ∀ p ∈ l, BdP k p) {i : Nat} (hi : i < l.length) : BdS k (edgeQ l i) :=
 ⟨at_bd h hi, at_bd h (Nat.mod_lt _ (by omega))⟩
theorem edges_bd {k : Nat} {l : List Pq} (h : ∀ p ∈ l, BdP k p) : ∀ e ∈ edgesQ l, BdS k e := by
 intro e he
 unfold edgesQ at he
 obtain ⟨i, hi, rfl⟩ := List.mem_map.1 he
 exact edge_bd h (by simpa using hi)
theorem sumE_bd {f : Sq -> Rat} {m : Nat} : ∀ (es : List Sq), (∀ e ∈ es, Bd m (f e)) -> Bd (es.length * (m + 1) + 1) (sumE f es) := by
 intro es
 induction h : es.length generalizing es with
 | zero =>
  intro _
  have : es = [] := List.eq_nil_of_length_eq_zero h
  subst this
  exact Bd.zero (by omega)
 | succ n ih =>
  intro hb
  obtain ⟨r, e, rfl⟩ : ∃ r e, es = r ++ [e] := ⟨es.dropLast, es.getLast (by intro h'; rw [h'] at h; simp at h), (List.dropLast_concat_getLast _).symm⟩
  rw [sumE_snoc]
  have h1 := ih r (by simp at h; exact h) (fun x hx => hb x (by simp [hx]))
  exact (h1.add (hb e (by simp))).mono (by rw [Nat.succ_mul]; omega)
theorem sumP_bd {f : Sq -> Pq} {m : Nat} : ∀ (es : List Sq), (∀ e ∈ es, BdP m (f e)) -> BdP (es.length * (m + 1) + 1) (sumP f es) := by
 intro es
 induction h : es.length generalizing es with
 | zero =>
  intro _
  have : es = [] := List.eq_nil_of_length_eq_zero h
  subst this
  exact BdP.zero (by omega)
 | succ n ih =>
  intro hb
  obtain ⟨r, e, rfl⟩ : ∃ r e, es = r ++ [e] := ⟨es.dropLast, es.getLast (by intro h'; rw [h'] at h; simp at h), (List.dropLast_concat_getLast _).symm⟩
  rw [sumP_snoc]
  have h1 := ih r (by simp at h; exact h) (fun x hx => hb x (by simp [hx]))
  exact (h1.add (hb e (by simp))).mono (by rw [Nat.succ_mul]; omega)
theorem crE_bd {k : Nat} {e : Sq} (h : BdS k e) : Bd (4 * k + 1) (crE e) := (h.a.cross h.b).mono (by omega)
end Go.Proofs.YtfdealobplcboaaGreat.Sx

set_option linter.unusedVariables false
set_option linter.unusedSimpArgs false
set_option maxRecDepth 100000
set_option maxHeartbeats 8000000
namespace Go.Proofs.YtfdealobplcboaaGreat.Sx
theorem vof_q (m n : Int) (h : (-9223372036854775808 <= m /\ m < 9223372036854775808) /\ (-9223372036854775808 <= n /\ n < 9223372036854775808)) : Con Tryz.prog 77 [.v (.int .i64 m), .v (.int .i64 n)] (.v (crP ⟨(m : Rat), (n : Rat)⟩).v) := by
 have h1 := h.1
 have h2 := h.2
 obtain ⟨r0, e0⟩ : ∃ r, r = crP ⟨(m : Rat), (n : Rat)⟩ := ⟨_, rfl⟩
 rw [<- e0]
 refine Con.of ttOk mixed Tryz.func77 {} .nil 0 (by kernel_rfl) (fun P' E hP hE => ?_)
 cbv
 refine ofc_c hP hE rfl (by omega) ?_
 intro c1 ec1 hc1
 cbv
 refine ofc_c hP hE rfl (by omega) ?_
 intro c2 ec2 hc2
 cbv
 rw [e0, ec1, ec2]; rfl
end Go.Proofs.YtfdealobplcboaaGreat.Sx

set_option linter.unusedVariables false
set_option linter.unusedSimpArgs false
set_option maxRecDepth 100000
set_option maxHeartbeats 8000000
namespace Go.Proofs.YtfdealobplcboaaGreat.Sx
abbrev zQ : Pt := ⟨⟨false, ⟨#[]⟩, ⟨#[]⟩⟩, ⟨false, ⟨#[]⟩, ⟨#[]⟩⟩⟩
theorem edges_ok : InlOk Tryz.prog [(133, Tryz.f133, {}), (183, Tryz.f183, { ord := [(3, .op 0 (.op 1 (.op 2 (.op 3 (.op 4 (.op 5 (.op 6 (.op 7 (.op 8 (.op 9 (.wr 10 (.op 11 .nil))))))))))))] })] :=
 InlOk.cons Tryz.func133 (by kernel_rfl) (InlOk.cons Tryz.func183 (by kernel_rfl) .nil)
theorem map_at {ps : List Pt} {i : Nat} (h : i < ps.length) : at' (ps.map Pt.q) i = (ps.getD i zQ).q := by
 unfold at'
 rw [List.getD_eq_getElem?_getD, List.getD_eq_getElem?_getD, List.getElem?_map, List.getElem?_eq_getElem h]; rfl
theorem getD_mem {ps : List Pt} {i : Nat} (h : i < ps.length) : ps.getD i zQ ∈ ps := by
 rw [List.getD_eq_getElem?_getD, List.getElem?_eq_getElem h]; exact List.getElem_mem h
/-- What a round over the edges needs. -/
structure EdgF (ps : List Pt) (n i j r : Int) (p q : Pt) : Prop where
 in1 : 0 <= i /\ i < n
 add : Env.std.ib .add .i64 i 1 = j
 nz : n ≠ 0
 rem : Env.std.ib .rem .i64 j n = r
 in2 : 0 <= r /\ r < n
 g1 : Env.std.get Pt ps i zQ = p
 g2 : Env.std.get Pt ps r zQ = q
 m1 : p ∈ ps
 m2 : q ∈ ps
 e : edgeQ (ps.map Pt.q) i.toNat = ⟨p.q, q.q⟩
 st : (edgesQ (ps.map Pt.q)).take j.toNat = (edgesQ (ps.map Pt.q)).take i.toNat ++ [⟨p.q, q.q⟩]
 j0 : 0 <= j
 j1 : j <= n
 mu : (n - j).toNat < (n - i).toNat
theorem edgF_ex {ps : List Pt} {n i : Int} (hn : n = (ps.length : Int)) (hl : ps.length <= 4096) (h0 : 0 <= i) (h1 : i < n) : ∃ j r p q, EdgF ps n i j r p q := by
 have hpos : i.toNat < ps.length := by omega
 have hr : (i.toNat + 1) % ps.length < ps.length := Nat.mod_lt _ (by omega)
 have er : (i + 1).tmod n = (((i.toNat + 1) % ps.length : Nat) : Int) := by
  rw [Int.tmod_eq_emod_of_nonneg (by omega), hn, Int.natCast_emod]; congr 1; omega
 have e : edgeQ (ps.map Pt.q) i.toNat = ⟨(ps.getD i.toNat zQ).q, (ps.getD ((i.toNat + 1) % ps.length) zQ).q⟩ := by
  unfold edgeQ
  rw [List.length_map, map_at hpos, map_at hr]
 refine ⟨i + 1, (((i.toNat + 1) % ps.length : Nat) : Int), ps.getD i.toNat zQ, ps.getD ((i.toNat + 1) % ps.length) zQ, ⟨⟨h0, h1⟩, by rw [s_add, w64 (by omega) (by omega)], by omega, by rw [s_rem, er], ⟨by omega, by omega⟩, rfl, rfl, getD_mem hpos, getD_mem hr, e, ?_, by omega, by omega, by omega⟩⟩
 have e2 : (i + 1).toNat = i.toNat + 1 := by omega
 rw [e2, edges_take (by rw [List.length_map]; exact hpos), e]
/-- What the loop of Area holds. -/
structure SumI (ps : List Pt) (m : Nat) (n i : Int) (s : R) : Prop where
 h0 : 0 <= i
 h1 : i <= n
 is : Is m s (sumE crE ((edgesQ (ps.map Pt.q)).take i.toNat))
/-- A round of Area. -/
structure SumF (ps : List Pt) (m : Nat) (n i : Int) (s : R) (j r : Int) (p q : Pt) (c s' : R) : Prop where
 e : EdgF ps n i j r p q
 cr : Con Tryz.prog 80 [.v p.v, .v q.v] (.v c.v)
 ad : Con Tryz.prog 60 [.v s.v, .v c.v] (.v s'.v)
 st : SumI ps m n j s'
theorem pts_bd {k : Nat} {ps : List Pt} (hp : ∀ p ∈ ps, IsP k p p.q) : ∀ q ∈ ps.map Pt.q, BdP k q := by
 intro q hq
 obtain ⟨p, h1, h2⟩ := List.mem_map.1 hq
 rw [<- h2]; exact (hp p h1).b
theorem sum_bd {k : Nat} {l : List Pq} (hl : l.length <= 4096) (hp : ∀ q ∈ l, BdP k q) (hk1 : 1 <= k) (i : Nat) : Bd (20480 * k + 20480) (sumE crE ((edgesQ l).take i)) := by
 have h := sumE_bd (f := crE) (m := 4 * k + 1) ((edgesQ l).take i) (fun e he => crE_bd (edges_bd hp e (List.mem_of_mem_take he)))
 refine h.mono ?_
 have h2 : ((edgesQ l).take i).length <= 4096 := by rw [List.length_take, edges_len]; omega
 have h3 : ((edgesQ l).take i).length * (4 * k + 1 + 1) <= 4096 * (4 * k + 2) := Nat.mul_le_mul_right _ h2
 omega
theorem sumF_ex {k : Nat} {ps : List Pt} (hp : ∀ p ∈ ps, IsP k p p.q) (hl : ps.length <= 4096) (hk : 40960 * k + 40960 <= 134217728) {n i : Int} {s : R} (hn : n = (ps.length : Int)) (h : SumI ps (20480 * k + 20480) n i s) (hi : i < n) : ∃ j r p q c s', SumF ps (20480 * k + 20480) n i s j r p q c s' := by
 obtain ⟨j, r, p, q, he⟩ := edgF_ex hn hl h.h0 hi
 have hk1 : 1 <= k := (hp p he.m1).b.x.pos
 obtain ⟨c, ec, hc, kc⟩ := vcross_p (hp p he.m1) (hp q he.m2) (by omega)
 obtain ⟨s', es, hs, ka⟩ := add_p h.is hc (by omega)
 have e2 : sumE crE ((edgesQ (ps.map Pt.q)).take i.toNat) + p.q.cross q.q = sumE crE ((edgesQ (ps.map Pt.q)).take j.toNat) := by rw [he.st, sumE_snoc]; rfl
 refine ⟨j, r, p, q, c, s', he, kc, ka, he.j0, he.j1, ?_⟩
 rw [es, e2]
 exact (sum_bd (by rw [List.length_map]; exact hl) (pts_bd hp) hk1 _).is
theorem area_q {k : Nat} {ps : List Pt} (hp : ∀ p ∈ ps, IsP k p p.q) (hl : ps.length <= 4096) (hk : 40960 * k + 40960 <= 134217728) (hk1 : 1 <= k) : Con Tryz.prog 53 [.ro cP ps] (.v (cr (areaQ (ps.map Pt.q))).v) := by
 obtain ⟨r0, e0⟩ : ∃ r, r = cr (areaQ (ps.map Pt.q)) := ⟨_, rfl⟩
 rw [<- e0]
 obtain ⟨n, hn⟩ : ∃ n : Int, n = ps.length := ⟨_, rfl⟩
 obtain ⟨i0, hi0⟩ : ∃ i : Int, i = 0 := ⟨_, rfl⟩
 obtain ⟨s0, hs0⟩ : ∃ s : R, s = ⟨false, ⟨#[]⟩, ⟨#[]⟩⟩ := ⟨_, rfl⟩
 have hp0 : SumI ps (20480 * k + 20480) n i0 s0 := ⟨by omega, by omega, by
  rw [hs0, hi0]
  show Is _ _ (0 : Rat)
  have hz := (Bd.zero (k := 20480 * k + 20480) (by omega)).is
  have e : cr 0 = ⟨false, ⟨#[]⟩, ⟨#[]⟩⟩ := cr_zero
  rw [e] at hz; exact hz⟩
 have hrnd : ∀ i s, SumI ps (20480 * k + 20480) n i s -> i < n -> ∃ j r p q c s', SumF ps (20480 * k + 20480) n i s j r p q c s' := fun i s h h' => sumF_ex hp hl hk hn h h'
 obtain ⟨t2, et2⟩ : ∃ r, r = cr ((2 : Int) : Rat) := ⟨_, rfl⟩
 have k2 := ofQ_q 2 (by decide) (by decide)
 rw [<- et2] at k2
 have h2 : Is 8 t2 ((2 : Int) : Rat) := by rw [et2]; exact (bd_int (by decide)).is
 have hquo : ∀ i s, SumI ps (20480 * k + 20480) n i s -> ¬ i < n -> ∃ e : Int, Con Tryz.prog 86 [.v s.v, .v t2.v] (.v (.tuple #[r0.v, .int .i64 e])) := by
  intro i s h h'
  obtain ⟨r, e, er, _, _, kq⟩ := quo_p h.is h2 (by omega)
  have h3 := h.h1
  rw [edges_all (by rw [List.length_map]; omega)] at er
  have e3 : r = r0 := by rw [er, e0]; rfl
  exact ⟨e, e3 ▸ kq⟩
 clear e0
 refine Con.of ttOk mixed Tryz.func53 { ord := (5, [0, 1, 2, 3, 4, 5]) :: [(6, (.op 0 (.br 1 (.br 2 (.op 3 (.op 4 (.op 5 (.op 6 (.op 7 (.op 8 .nil)))))) (.br 6 (.op 2 (.op 3 (.op 4 (.op 5 (.op 7 (.op 8 .nil)))))) .stop)) (.br 6 (.op 1 (.op 2 (.op 3 (.op 4 (.op 5 (.op 7 (.op 8 .nil))))))) .stop))))] } edges_ok 4 (by kernel_rfl) (fun P' E hP hE => ?_)
 cbv
 refine LoopTo.by (ι := Int × R) (fun x => [(6, .v (.int .i64 n)), (7, .v (.int .i64 x.1))]) (fun x => [(2, .cells x.2.av 23)]) (fun x => SumI ps (20480 * k + 20480) n x.1 x.2) (fun x => (n - x.1).toNat) (i0, s0) [] hp0 ?_ ?_
 ·cbv
  subst hE
  and_intros
  all_goals first
   | exact True.intro
   | rfl
   | exact congrArg (fun x => AV.v (Value.int .i64 x)) hn.symm
   | exact congrArg (fun x => Value.int .i64 x) hi0.symm
   | exact congrArg (fun s : R => AV.v (Value.bool s.neg)) hs0.symm
   | exact congrArg (fun s : R => AV.v (Value.string s.num)) hs0.symm
   | exact congrArg (fun s : R => AV.v (Value.string s.den)) hs0.symm
   | (intro h; cases h; done)
   | fail
 ·rintro ⟨i, s⟩ hi
  have hi : SumI ps (20480 * k + 20480) n i s := hi
  clear hp0
  cbv
  refine fork.mk ?_ ?_
  ·intro g
   have hlt : i < n := by subst hE; simpa [Env.std] using g
   refine Exists.elim (hrnd i s hi hlt) ?_
   intro j h
   refine Exists.elim h ?_
   intro r h
   refine Exists.elim h ?_
   intro p h
   refine Exists.elim h ?_
   intro q h
   refine Exists.elim h ?_
   intro c h
   refine Exists.elim h ?_
   intro s' hf
   have hn : n = (ps.length : Int) := hn
   have in1 : 0 <= i /\ i < (ps.length : Int) := by rw [<- hn]; exact hf.e.in1
   have hadd := hf.e.add
   have hnz : Env.std.nz .rem (Env.std.len Pt ps) := by show (ps.length : Int) ≠ 0; have := hf.e.nz; rw [<- hn]; exact this
   have hrem : Env.std.ib .rem .i64 (Env.std.ib .add .i64 i 1) (Env.std.len Pt ps) = r := by rw [hadd, s_len, <- hn]; exact hf.e.rem
   have in2 : 0 <= Env.std.ib .rem .i64 (Env.std.ib .add .i64 i 1) (Env.std.len Pt ps) /\ Env.std.ib .rem .i64 (Env.std.ib .add .i64 i 1) (Env.std.len Pt ps) < (ps.length : Int) := by rw [hrem, <- hn]; exact hf.e.in2
   have hg1 := hf.e.g1
   have hg2 : Env.std.get Pt ps (Env.std.ib .rem .i64 (Env.std.ib .add .i64 i 1) (Env.std.len Pt ps)) zQ = q := by rw [hrem]; exact hf.e.g2
   have kcr := hf.cr
   have kad := hf.ad
   have hst := hf.st
   have hmu := hf.e.mu
   clear hf h hi hlt g
   cbv
   refine Need.mk (by subst hE; exact in1) ?_
   cbv
   refine Need.mk (by subst hE; exact hnz) ?_
   cbv
   refine Need.mk (by subst hE; exact in2) ?_
   cbv
   refine CallTo.w hP hE kcr ⟨(by subst hE; exact congrArg (fun p : Pt => p.v) hg1), (by subst hE; exact congrArg (fun p : Pt => p.v) hg2), trivial⟩ ?_
   cbv
   refine CallTo.w hP hE kad ⟨rfl, rfl, trivial⟩ ?_
   cbv
   refine ⟨(j, s'), [], hst, hmu, ?_⟩
   cbv
   subst hE
   and_intros
   all_goals first
    | exact True.intro
    | rfl
    | exact congrArg (fun x => AV.v (Value.int .i64 x)) hadd
    | exact congrArg (fun x => Value.int .i64 x) hadd
    | (simp; done)
    | (intro h; cases h; done)
    | fail
  ·intro g
   have hge : ¬ i < n := by subst hE; simpa [Env.std] using g
   have hx := hquo i s hi hge
   clear hi hge hquo hrnd g
   cbv
   refine Exists.elim hx ?_
   intro e kq
   refine DrawTo.byU [(6, .p 5 0), (7, .v (.int .i64 e))] [.cells r0.av 23] ?_ ?_
   ·cbv
    repeat' first
     | exact True.intro
     | (refine Both.mk ?_ ?_ <;> cbv)
     | (refine CallTo.w hP hE k2 ⟨rfl, trivial⟩ ?_; cbv)
     | (refine CallTo.w hP hE kq ⟨rfl, rfl, trivial⟩ ?_; cbv)
     | (and_intros <;> first | exact True.intro | rfl | (intro h; cases h; done) | (intro h; rfl))
   ·cbv
    skip
end Go.Proofs.YtfdealobplcboaaGreat.Sx

set_option linter.unusedVariables false
set_option linter.unusedSimpArgs false
set_option maxRecDepth 100000
set_option maxHeartbeats 8000000
namespace Go.Proofs.YtfdealobplcboaaGreat.Sx
def canR (r : R) : Bool := eqCells r.c (cr r.q).c
def canP (p : Pt) : Bool := canR p.x && canR p.y
def canL (l : List Pt) : Bool := l.all canP
theorem canR_iff {r : R} : canR r = true ↔ r = cr r.q := eqc_R _ _
theorem canP_iff {p : Pt} : canP p = true ↔ p = crP p.q := by
 unfold canP crP
 rw [Bool.and_eq_true, canR_iff, canR_iff]
 constructor
 ·rintro ⟨h1, h2⟩
  cases p; simp only [Pt.q] at *; rw [<- h1, <- h2]
 ·intro h
  have h1 := congrArg Pt.x h
  have h2 := congrArg Pt.y h
  exact ⟨h1, h2⟩
theorem canL_eq {l : List Pt} (h : canL l = true) : l = (l.map Pt.q).map crP := by
 rw [List.map_map]
 conv => lhs; rw [<- List.map_id l]
 refine List.map_congr_left fun p hp => ?_
 exact canP_iff.1 (List.all_eq_true.1 h p hp)
theorem rchk_q {a : R} {x : Rat} {k : Nat} (ha : Is k a x) (h : k <= 134217728) : Con Tryz.prog 211 [.v a.v] (.v (.int .i64 (if canR a = true then 0 else 1))) := by
 have hq : canR a = eqCells a.c (cr x).c := by unfold canR; rw [ha.q]
 obtain ⟨m, em⟩ : ∃ m : Int, m = if canR a = true then 0 else 1 := ⟨_, rfl⟩
 rw [<- em]
 rw [hq] at em
 have c1 := of98_con a.neg a.num a.den (ha.sz h).2.1
 have c2 := norm_con _ ha h
 obtain ⟨r, hr⟩ : ∃ r, r = cr x := ⟨_, rfl⟩
 rw [<- hr] at c2 em
 clear hq hr
 obtain ⟨n1, u1, d1⟩ := a
 obtain ⟨n2, u2, d2⟩ := r
 obtain ⟨e1, he1⟩ : ∃ e, e = dden d1 := ⟨_, rfl⟩
 have he1' : e1 = dden (R.mk n1 u1 d1).den := he1
 have he2' : e1 = dden (R.mk n1 u1 d1).den := he1
 rw [<- he1'] at c1
 rw [<- he2'] at c2
 unfold rR fR at c1
 unfold fR at c2
 refine Con.of ttOk mixed Tryz.func211 { ord := [(1, [0, 1, 2, 3, 4])] } .nil 0 (by kernel_rfl) (fun P' E hP hE => ?_)
 clear he1 he1' he2'
 cbv
 refine CallTo.w hP hE c1 (by subst hE; exact ⟨rfl, trivial⟩) ?_
 cbv
 refine CallTo.w hP hE c2 (by subst hE; exact ⟨rfl, trivial⟩) ?_
 cbv
 refine fork.mk ?_ ?_
 ·intro g
  cbv
  subst hE
  have g : (!eqCells (R.mk n1 u1 d1).c (R.mk n2 u2 d2).c) = true := g
  rw [em, if_neg (by simpa using g)]
 ·intro g
  cbv
  subst hE
  have g : (!eqCells (R.mk n1 u1 d1).c (R.mk n2 u2 d2).c) = false := g
  rw [em, if_pos (by simpa using g)]
theorem vchk_q {a : Pt} {A : Pq} {k : Nat} (ha : IsP k a A) (h : k <= 134217728) : Con Tryz.prog 177 [.v a.v] (.v (.int .i64 (if canP a = true then 0 else 1))) := by
 obtain ⟨m, em⟩ : ∃ m : Int, m = if canP a = true then 0 else 1 := ⟨_, rfl⟩
 rw [<- em]
 unfold canP at em
 have c1 := rchk_q ha.x h
 have c2 := rchk_q ha.y h
 obtain ⟨m1, e1⟩ : ∃ m : Int, m = if canR a.x = true then 0 else 1 := ⟨_, rfl⟩
 obtain ⟨m2, e2⟩ : ∃ m : Int, m = if canR a.y = true then 0 else 1 := ⟨_, rfl⟩
 rw [<- e1] at c1
 rw [<- e2] at c2
 have key : m = if m1 ≠ 0 then 1 else if m2 ≠ 0 then 1 else 0 := by
  rw [em, e1, e2]
  cases canR a.x <;> cases canR a.y <;> rfl
 clear em e1 e2 ha
 obtain ⟨⟨an0, au0, ad0⟩, ⟨an1, au1, ad1⟩⟩ := a
 refine Con.of ttOk mixed Tryz.func177 { un := [(2, 3)] } .nil 0 (by kernel_rfl) (fun P' E hP hE => ?_)
 cbv
 refine CallTo.w hP hE c1 ⟨rfl, trivial⟩ ?_
 cbv
 refine fork.mk ?_ ?_
 ·intro g
  cbv
  subst hE
  have g : Env.std.ic .neq m1 0 = true := g
  rw [key, if_pos (by simpa using g)]
 ·intro g
  cbv
  refine CallTo.w hP hE c2 ⟨rfl, trivial⟩ ?_
  cbv
  have g0 : m1 = 0 := by
   subst hE
   have g : Env.std.ic .neq m1 0 = false := g
   simpa using g
  refine fork.mk ?_ ?_
  ·intro g
   cbv
   subst hE
   have g : Env.std.ic .neq m2 0 = true := g
   rw [key, if_neg (by simp [g0]), if_pos (by simpa using g)]
  ·intro g
   cbv
   subst hE
   have g : Env.std.ic .neq m2 0 = false := g
   rw [key, if_neg (by simp [g0]), if_neg (by simpa using g)]
theorem cont_ok : InlOk Tryz.prog [(71, Tryz.f71, {}), (154, Tryz.f154, {}), (176, Tryz.f176, {})] :=
 InlOk.cons Tryz.func71 (by kernel_rfl) (InlOk.cons Tryz.func154 (by kernel_rfl) (InlOk.cons Tryz.func176 (by kernel_rfl) .nil))
/-- What a round over a list needs. -/
structure LstF (ps : List Pt) (n i j : Int) (p : Pt) : Prop where
 in1 : 0 <= i /\ i < (ps.length : Int)
 add : Env.std.ib .add .i64 i 1 = j
 g1 : Env.std.get Pt ps i zQ = p
 m1 : p ∈ ps
 j0 : 0 <= j
 j1 : j <= n
 mu : (n - j).toNat < (n - i).toNat
 tk : ps.take j.toNat = ps.take i.toNat ++ [p]
 ej : j = i + 1
theorem lstF_ex {ps : List Pt} {n i : Int} (hn : n = (ps.length : Int)) (hl : ps.length <= 140737488355328) (h0 : 0 <= i) (h1 : i < n) : ∃ j p, LstF ps n i j p := by
 have hpos : i.toNat < ps.length := by omega
 refine ⟨i + 1, ps.getD i.toNat zQ, ⟨⟨h0, by omega⟩, by rw [s_add, w64 (by omega) (by omega)], rfl, getD_mem hpos, by omega, by omega, by omega, ?_, rfl⟩⟩
 have e2 : (i + 1).toNat = i.toNat + 1 := by omega
 rw [e2, List.take_add_one, List.getD_eq_getElem?_getD, List.getElem?_eq_getElem hpos]; rfl
theorem canonL_q {k : Nat} {ps : List Pt} (hp : ∀ p ∈ ps, IsP k p p.q) (hk : k <= 134217728) (hl : ps.length <= 140737488355328) : Con Tryz.prog 117 [.ro cP ps] (.v (.bool (canL ps))) := by
 obtain ⟨r, er⟩ : ∃ r, r = canL ps := ⟨_, rfl⟩
 rw [<- er]
 obtain ⟨n, hn⟩ : ∃ n : Int, n = ps.length := ⟨_, rfl⟩
 obtain ⟨i0, hi0⟩ : ∃ i : Int, i = 0 := ⟨_, rfl⟩
 have hp0 : 0 <= i0 /\ i0 <= n /\ canL (ps.take i0.toNat) = true := ⟨by omega, by omega, by rw [hi0]; rfl⟩
 refine Con.of ttOk mixed Tryz.func117 {} cont_ok 4 (by kernel_rfl) (fun P' E hP hE => ?_)
 cbv
 refine LoopTo.by (ι := Int) (fun x => [(7, .v (.int .i64 n)), (8, .v (.int .i64 x))]) (fun x => []) (fun x => 0 <= x /\ x <= n /\ canL (ps.take x.toNat) = true) (fun x => (n - x).toNat) i0 [] hp0 ?_ ?_
 ·cbv
  subst hE
  and_intros
  all_goals first
   | exact True.intro
   | rfl
   | exact congrArg (fun x => AV.v (Value.int .i64 x)) hn.symm
   | exact congrArg (fun x => Value.int .i64 x) hi0.symm
   | (simp; done)
   | fail
 ·intro i hi
  have h0 : 0 <= i := hi.1
  have h1 : i <= n := hi.2.1
  have h2 : canL (ps.take i.toNat) = true := hi.2.2
  clear hi hp0
  cbv
  refine fork.mk ?_ ?_
  ·intro g
   have hn : n = (ps.length : Int) := hn
   have hlt : i < n := by subst hE; simpa [Env.std] using g
   refine Exists.elim (lstF_ex hn hl h0 hlt) ?_
   intro j h
   refine Exists.elim h ?_
   intro p hf
   have kc := vchk_q (hp p hf.m1) hk
   obtain ⟨m, em⟩ : ∃ m : Int, m = if canP p = true then 0 else 1 := ⟨_, rfl⟩
   rw [<- em] at kc
   have hin := hf.in1
   have hget := hf.g1
   have hj := hf.add
   have hmu := hf.mu
   have hst : m = 0 -> 0 <= j /\ j <= n /\ canL (ps.take j.toNat) = true := fun h => ⟨hf.j0, hf.j1, by
    have hc : canP p = true := by
     cases e : canP p with
     | true => rfl
     | false => rw [em, e] at h; cases h
    rw [hf.tk]; unfold canL at h2 ⊢; rw [List.all_append, h2]; simp [hc]⟩
   have hno : m ≠ 0 -> r = false := fun h => by
    have hc : canP p = false := by
     cases e : canP p with
     | false => rfl
     | true => rw [em, e] at h; exact absurd rfl h
    rw [er, <- Bool.not_eq_true]
    intro hcl
    have := List.all_eq_true.1 hcl p hf.m1
    rw [hc] at this; cases this
   have hge0 : Env.std.ic .geq i 0 = true := by show decide (0 <= i) = true; exact decide_eq_true h0
   clear hf h h2 em h0 h1 hlt g
   cbv
   refine Need.mk (by subst hE; exact hin) ?_
   cbv
   refine CallTo.w hP hE kc ⟨(by subst hE; exact congrArg (fun p : Pt => p.v) hget), trivial⟩ ?_
   cbv
   refine fork.mk ?_ ?_
   ·intro g
    have hr := hno (by subst hE; have g : Env.std.ic .neq m 0 = true := g; simpa using g)
    cbv
    subst hE
    exact congrArg Value.bool ((show (!Env.std.ic .geq i 0) = false by rw [hge0]; rfl).trans hr.symm)
   ·intro g
    have hr := hst (by subst hE; have g : Env.std.ic .neq m 0 = false := g; simpa using g)
    cbv
    refine ⟨j, [], hr, hmu, ?_⟩
    cbv
    subst hE
    and_intros
    all_goals first
     | exact True.intro
     | rfl
     | exact congrArg (fun x => AV.v (Value.int .i64 x)) hj
     | exact congrArg (fun x => Value.int .i64 x) hj
     | (simp; done)
  ·intro g
   have hn : n = (ps.length : Int) := hn
   have hge : ¬ i < n := by subst hE; simpa [Env.std] using g
   rw [List.take_of_length_le (by omega)] at h2
   have hr : r = true := by rw [er]; exact h2
   cbv
   exact congrArg Value.bool hr.symm
end Go.Proofs.YtfdealobplcboaaGreat.Sx

set_option linter.unusedVariables false
set_option linter.unusedSimpArgs false
set_option maxRecDepth 100000
set_option maxHeartbeats 8000000
namespace Go.Proofs.YtfdealobplcboaaGreat.Sx
abbrev tiFn : TI := { kind := 0, sz := 1, zero := [Value.nilFunc], flds := [], elem := 0, ik := .i64, eq := false, len := 0, bytes := 8, cd := none }
theorem tyFn : TyOk Tryz.prog 64 tiFn := ⟨by kernel_rfl, by kernel_rfl, (fun _ => ⟨_, rfl, rfl⟩), rfl, (fun _ h => by cases h), (fun h => by cases h)⟩
def ttF : Tab := (64, tiFn) :: tt
theorem ttFOk : TabOk Tryz.prog ttF := .cons tyFn ttOk
theorem odd_ok : InlOk Tryz.prog [(133, Tryz.f133, {}), (183, Tryz.f183, { ord := [(3, .op 0 (.op 1 (.op 2 (.op 3 (.op 4 (.op 5 (.op 6 (.op 7 (.op 8 (.op 9 (.wr 10 (.op 11 .nil))))))))))))] }), (190, Tryz.f190, {})] :=
 InlOk.cons Tryz.func133 (by kernel_rfl) (InlOk.cons Tryz.func183 (by kernel_rfl) (InlOk.cons Tryz.func190 (by kernel_rfl) .nil))
/-- What the loop holds. -/
structure OddI (ps : List Pt) (P : Pq) (n i : Int) (b : Bool) : Prop where
 h0 : 0 <= i
 h1 : i <= n
 eq : b = parE P ((edgesQ (ps.map Pt.q)).take i.toNat)
/-- A round. -/
structure OddF (ps : List Pt) (z : Pt) (P : Pq) (n i : Int) (b : Bool) (j r : Int) (p q : Pt) (ma mb o1 o2 : Int) : Prop where
 e : EdgF ps n i j r p q
 ca : Con Tryz.prog 25 [.v p.y.v, .v z.y.v] (.v (.int .i64 ma))
 cb : Con Tryz.prog 25 [.v q.y.v, .v z.y.v] (.v (.int .i64 mb))
 or1 : Con Tryz.prog 17 [.v p.v, .v q.v, .v z.v] (.v (.int .i64 o1))
 or2 : Con Tryz.prog 17 [.v q.v, .v p.v, .v z.v] (.v (.int .i64 o2))
 up : 0 < ma -> 0 < o2 -> ¬ 0 < mb -> OddI ps P n j (!b)
 upn : 0 < ma -> (¬ 0 < o2 \/ 0 < mb) -> OddI ps P n j b
 dn : ¬ 0 < ma -> 0 < mb -> 0 < o1 -> OddI ps P n j (!b)
 dnn : ¬ 0 < ma -> (¬ 0 < mb \/ ¬ 0 < o1) -> OddI ps P n j b
theorem oddF_ex {k : Nat} {ps : List Pt} (hp : ∀ p ∈ ps, IsP k p p.q) (hl : ps.length <= 4096) (hk : 16 * k + 16 <= 134217728) {z : Pt} {P : Pq} (hz : IsP k z P) {n i : Int} {b : Bool} (hn : n = (ps.length : Int)) (h : OddI ps P n i b) (hi : i < n) : ∃ j r p q ma mb o1 o2, OddF ps z P n i b j r p q ma mb o1 o2 := by
 obtain ⟨j, r, p, q, he⟩ := edgF_ex hn hl h.h0 hi
 obtain ⟨ma, ea, ka⟩ := cmp_p (hp p he.m1).y hz.y (by omega)
 obtain ⟨mb, eb, kb⟩ := cmp_p (hp q he.m2).y hz.y (by omega)
 obtain ⟨o1, e1, k1⟩ := orient_p (hp p he.m1) (hp q he.m2) hz (by omega)
 obtain ⟨o2, e2, k2⟩ := orient_p (hp q he.m2) (hp p he.m1) hz (by omega)
 have hst : OddI ps P n j (if oddE P ⟨p.q, q.q⟩ = true then !b else b) := ⟨he.j0, he.j1, by rw [he.st, parE_snoc, h.eq]⟩
 have hu : ∀ m x : Int, (upQ p.q P = true ↔ 0 < ma) := fun _ _ => by unfold upQ; rw [decide_eq_true_iff, ea]
 have ua : upQ p.q P = decide (0 < ma) := by unfold upQ; rw [ea]
 have ub : upQ q.q P = decide (0 < mb) := by unfold upQ; rw [eb]
 have hodd : oddE P ⟨p.q, q.q⟩ = if 0 < ma then (!decide (0 < mb) && (decide (0 < ma) && decide (0 < o2))) else (!decide (0 < ma) && (decide (0 < mb) && decide (0 < o1))) := by
  unfold oddE
  simp only
  rw [ua, ub, e1, e2]
  by_cases c : 0 < cmpQ p.q.y P.y <;> simp [c]
 refine ⟨j, r, p, q, ma, mb, o1, o2, he, ka, kb, k1, k2, fun c1 c2 c3 => ?_, fun c1 c2 => ?_, fun c1 c2 c3 => ?_, fun c1 c2 => ?_⟩
 ·rw [hodd, if_pos c1, decide_eq_true c1, decide_eq_true c2, decide_eq_false c3] at hst; exact hst
 ·rw [hodd, if_pos c1] at hst
  rcases c2 with c2 | c2
  ·simpa [c2] using hst
  ·simpa [c2] using hst
 ·rw [hodd, if_neg c1, decide_eq_false c1, decide_eq_true c2, decide_eq_true c3] at hst; exact hst
 ·rw [hodd, if_neg c1] at hst
  rcases c2 with c2 | c2
  ·simpa [c2] using hst
  ·simpa [c2] using hst
theorem odd_q {k : Nat} {ps : List Pt} (hp : ∀ p ∈ ps, IsP k p p.q) (hl : ps.length <= 4096) (hk : 16 * k + 16 <= 134217728) {z : Pt} {P : Pq} (hz : IsP k z P) : Con Tryz.prog 141 [.ro cP ps, .v z.v] (.v (.bool (oddQ (ps.map Pt.q) P))) := by
 obtain ⟨r0, e0⟩ : ∃ r, r = oddQ (ps.map Pt.q) P := ⟨_, rfl⟩
 rw [<- e0]
 obtain ⟨n, hn⟩ : ∃ n : Int, n = ps.length := ⟨_, rfl⟩
 obtain ⟨i0, hi0⟩ : ∃ i : Int, i = 0 := ⟨_, rfl⟩
 obtain ⟨b0, hb0⟩ : ∃ b : Bool, b = false := ⟨_, rfl⟩
 have hp0 : OddI ps P n i0 b0 := ⟨by omega, by omega, by rw [hb0, hi0]; rfl⟩
 have hrnd : ∀ i b, OddI ps P n i b -> i < n -> ∃ j r p q ma mb o1 o2, OddF ps z P n i b j r p q ma mb o1 o2 := fun i b h h' => oddF_ex hp hl hk hz hn h h'
 have hfin : ∀ i b, OddI ps P n i b -> ¬ i < n -> b = r0 := fun i b h h' => by
  have h1 := h.h1
  rw [h.eq, e0, edges_all (by rw [List.length_map]; omega)]; rfl
 clear e0
 refine Con.of ttFOk mixed Tryz.func141 {} odd_ok 5 (by kernel_rfl) (fun P' E hP hE => ?_)
 cbv
 refine LoopTo.by (ι := Int × Bool) (fun x => [(6, .v (.int .i64 n)), (7, .v (.int .i64 x.1))]) (fun x => [(4, .cells [.v (.bool x.2)] 4)]) (fun x => OddI ps P n x.1 x.2) (fun x => (n - x.1).toNat) (i0, b0) [] hp0 ?_ ?_
 ·cbv
  subst hE
  and_intros
  all_goals first
   | exact True.intro
   | rfl
   | exact congrArg (fun x => AV.v (Value.int .i64 x)) hn.symm
   | exact congrArg (fun x => Value.int .i64 x) hi0.symm
   | exact congrArg (fun x => AV.v (Value.bool x)) hb0.symm
   | (intro h; cases h; done)
   | (simp [hb0]; done)
   | fail
 ·rintro ⟨i, b⟩ hi
  have hi : OddI ps P n i b := hi
  clear hp0
  cbv
  refine fork.mk ?_ ?_
  ·intro g
   have hlt : i < n := by subst hE; simpa [Env.std] using g
   refine Exists.elim (hrnd i b hi hlt) ?_
   intro j h
   refine Exists.elim h ?_
   intro r h
   refine Exists.elim h ?_
   intro p h
   refine Exists.elim h ?_
   intro q h
   refine Exists.elim h ?_
   intro ma h
   refine Exists.elim h ?_
   intro mb h
   refine Exists.elim h ?_
   intro o1 h
   refine Exists.elim h ?_
   intro o2 hf
   have hn : n = (ps.length : Int) := hn
   have in1 : 0 <= i /\ i < (ps.length : Int) := by rw [<- hn]; exact hf.e.in1
   have hadd := hf.e.add
   have hnz : Env.std.nz .rem (Env.std.len Pt ps) := by show (ps.length : Int) ≠ 0; have := hf.e.nz; rw [<- hn]; exact this
   have hrem : Env.std.ib .rem .i64 (Env.std.ib .add .i64 i 1) (Env.std.len Pt ps) = r := by rw [hadd, s_len, <- hn]; exact hf.e.rem
   have in2 : 0 <= Env.std.ib .rem .i64 (Env.std.ib .add .i64 i 1) (Env.std.len Pt ps) /\ Env.std.ib .rem .i64 (Env.std.ib .add .i64 i 1) (Env.std.len Pt ps) < (ps.length : Int) := by rw [hrem, <- hn]; exact hf.e.in2
   have hg1 := hf.e.g1
   have hg2 : Env.std.get Pt ps (Env.std.ib .rem .i64 (Env.std.ib .add .i64 i 1) (Env.std.len Pt ps)) zQ = q := by rw [hrem]; exact hf.e.g2
   have ka := hf.ca
   have kb := hf.cb
   have k1 := hf.or1
   have k2 := hf.or2
   have hup := hf.up
   have hupn := hf.upn
   have hdn := hf.dn
   have hdnn := hf.dnn
   have hmu := hf.e.mu
   clear hf h hi hlt g
   cbv
   refine Need.mk (by subst hE; exact in1) ?_
   cbv
   refine Need.mk (by subst hE; exact hnz) ?_
   cbv
   refine Need.mk (by subst hE; exact in2) ?_
   cbv
   refine CallTo.w hP hE ka ⟨(by subst hE; exact congrArg (fun p : Pt => p.y.v) hg1), rfl, trivial⟩ ?_
   cbv
   refine fork.mk ?_ ?_
   ·intro g1
    have c1 : 0 < ma := by subst hE; simpa [Env.std] using g1
    cbv
    refine CallTo.w hP hE kb ⟨(by subst hE; exact congrArg (fun p : Pt => p.y.v) hg2), rfl, trivial⟩ ?_
    cbv
    refine fork.mk ?_ ?_
    ·intro g2
     have c2 : ¬ 0 < mb := by subst hE; simpa [Env.std] using g2
     cbv
     refine CallTo.w hP hE ka ⟨(by subst hE; exact congrArg (fun p : Pt => p.y.v) hg1), rfl, trivial⟩ ?_
     cbv
     refine fork.mk ?_ ?_
     ·intro g2
      cbv
      refine CallTo.w hP hE k2 ⟨(by subst hE; exact congrArg (fun p : Pt => p.v) hg2), (by subst hE; exact congrArg (fun p : Pt => p.v) hg1), rfl, trivial⟩ ?_
      cbv
      refine fork.mk ?_ ?_
      ·intro g2
       have c3 : 0 < o2 := by subst hE; simpa [Env.std] using g2
       cbv
       refine ⟨(j, !b), [], hup c1 c3 c2, hmu, ?_⟩
       cbv
       subst hE
       and_intros
       all_goals first
        | exact True.intro
        | rfl
        | exact congrArg (fun x => AV.v (Value.int .i64 x)) hadd
        | exact congrArg (fun x => Value.int .i64 x) hadd
        | (simp; done)
        | (intro h; cases h; done)
        | fail
      ·intro g2
       have c3 : ¬ 0 < o2 := by subst hE; simpa [Env.std] using g2
       cbv
       refine ⟨(j, b), [], hupn c1 (Or.inl c3), hmu, ?_⟩
       cbv
       subst hE
       and_intros
       all_goals first
        | exact True.intro
        | rfl
        | exact congrArg (fun x => AV.v (Value.int .i64 x)) hadd
        | exact congrArg (fun x => Value.int .i64 x) hadd
        | (simp; done)
        | (intro h; cases h; done)
        | fail
     ·intro g2
      have c3 : ¬ 0 < ma := by subst hE; simpa [Env.std] using g2
      exact absurd c1 c3
    ·intro g2
     have c2 : 0 < mb := by subst hE; simpa [Env.std] using g2
     cbv
     refine ⟨(j, b), [], hupn c1 (Or.inr c2), hmu, ?_⟩
     cbv
     subst hE
     and_intros
     all_goals first
      | exact True.intro
      | rfl
      | exact congrArg (fun x => AV.v (Value.int .i64 x)) hadd
      | exact congrArg (fun x => Value.int .i64 x) hadd
      | (simp; done)
      | (intro h; cases h; done)
      | fail
   ·intro g1
    have c1 : ¬ 0 < ma := by subst hE; simpa [Env.std] using g1
    cbv
    refine CallTo.w hP hE ka ⟨(by subst hE; exact congrArg (fun p : Pt => p.y.v) hg1), rfl, trivial⟩ ?_
    cbv
    refine fork.mk ?_ ?_
    ·intro g2
     cbv
     refine CallTo.w hP hE kb ⟨(by subst hE; exact congrArg (fun p : Pt => p.y.v) hg2), rfl, trivial⟩ ?_
     cbv
     refine fork.mk ?_ ?_
     ·intro g2
      have c2 : 0 < mb := by subst hE; simpa [Env.std] using g2
      cbv
      refine CallTo.w hP hE k1 ⟨(by subst hE; exact congrArg (fun p : Pt => p.v) hg1), (by subst hE; exact congrArg (fun p : Pt => p.v) hg2), rfl, trivial⟩ ?_
      cbv
      refine fork.mk ?_ ?_
      ·intro g2
       have c3 : 0 < o1 := by subst hE; simpa [Env.std] using g2
       cbv
       refine ⟨(j, !b), [], hdn c1 c2 c3, hmu, ?_⟩
       cbv
       subst hE
       and_intros
       all_goals first
        | exact True.intro
        | rfl
        | exact congrArg (fun x => AV.v (Value.int .i64 x)) hadd
        | exact congrArg (fun x => Value.int .i64 x) hadd
        | (simp; done)
        | (intro h; cases h; done)
        | fail
      ·intro g2
       have c3 : ¬ 0 < o1 := by subst hE; simpa [Env.std] using g2
       cbv
       refine ⟨(j, b), [], hdnn c1 (Or.inr c3), hmu, ?_⟩
       cbv
       subst hE
       and_intros
       all_goals first
        | exact True.intro
        | rfl
        | exact congrArg (fun x => AV.v (Value.int .i64 x)) hadd
        | exact congrArg (fun x => Value.int .i64 x) hadd
        | (simp; done)
        | (intro h; cases h; done)
        | fail
     ·intro g2
      have c2 : ¬ 0 < mb := by subst hE; simpa [Env.std] using g2
      cbv
      refine ⟨(j, b), [], hdnn c1 (Or.inl c2), hmu, ?_⟩
      cbv
      subst hE
      and_intros
      all_goals first
       | exact True.intro
       | rfl
       | exact congrArg (fun x => AV.v (Value.int .i64 x)) hadd
       | exact congrArg (fun x => Value.int .i64 x) hadd
       | (simp; done)
       | (intro h; cases h; done)
       | fail
    ·intro g2
     have c2 : 0 < ma := by subst hE; simpa [Env.std] using g2
     exact absurd c2 c1
  ·intro g
   have hge : ¬ i < n := by subst hE; simpa [Env.std] using g
   have hx := hfin i b hi hge
   clear hi hge hfin hrnd g
   subst hx
   cbv
end Go.Proofs.YtfdealobplcboaaGreat.Sx

set_option linter.unusedVariables false
set_option linter.unusedSimpArgs false
set_option maxRecDepth 100000
set_option maxHeartbeats 8000000
namespace Go.Proofs.YtfdealobplcboaaGreat.Sx
/-- Parity's answer. -/
def parB (ps : List Pt) (z : Pt) : Bool := if canL ps = true then if canL [z] = true then if 1000 < (ps.length : Int) then false else oddQ (ps.map Pt.q) z.q else false else false
def parI (ps : List Pt) (z : Pt) : Int := if canL ps = true then if canL [z] = true then if 1000 < (ps.length : Int) then 4 else 0 else 1 else 1
theorem parity_q {k : Nat} {ps : List Pt} (hp : ∀ p ∈ ps, IsP k p p.q) (hl : ps.length <= 4096) (hk : 16 * k + 16 <= 134217728) {z : Pt} (hz : IsP k z z.q) : Con Tryz.prog 63 [.ro cP ps, .v z.v] (.v (.tuple #[.bool (parB ps z), .int .i64 (parI ps z)])) := by
 have kcan := canonL_q hp (show k <= 134217728 by omega) (show ps.length <= 140737488355328 by omega)
 have kcan2 := canonL_q (k := k) (ps := [z]) (fun p h => by rw [List.mem_singleton.1 h]; exact hz) (show k <= 134217728 by omega) (show 1 <= 140737488355328 by omega)
 have kodd := odd_q hp hl hk hz
 obtain ⟨n, hn⟩ : ∃ n : Int, n = ps.length := ⟨_, rfl⟩
 have hln : Env.std.len Pt ps = n := by rw [s_len, hn]
 have tk9 : Env.std.tk Pt ps (Env.std.len Pt ps) = ps := by rw [s_tk, s_len]; exact List.take_of_length_le (by omega)
 obtain ⟨b0, eb⟩ : ∃ r : Bool, r = parB ps z := ⟨_, rfl⟩
 obtain ⟨r0, er⟩ : ∃ r : Int, r = parI ps z := ⟨_, rfl⟩
 rw [<- eb, <- er]
 unfold parB at eb
 unfold parI at er
 rw [<- hn] at eb er
 obtain ⟨c, hc⟩ : ∃ c, c = canL ps := ⟨_, rfl⟩
 obtain ⟨d, hd⟩ : ∃ c, c = canL [z] := ⟨_, rfl⟩
 obtain ⟨o, ho⟩ : ∃ c, c = oddQ (ps.map Pt.q) z.q := ⟨_, rfl⟩
 rw [<- hc] at kcan eb er
 rw [<- hd] at kcan2 eb er
 rw [<- ho] at kodd eb
 clear hc hd ho hp hl hk hz
 have w1 : ¬ c = true -> false = b0 /\ 1 = r0 := fun h => ⟨by rw [eb, if_neg h], by rw [er, if_neg h]⟩
 have w2 : c = true -> ¬ d = true -> false = b0 /\ 1 = r0 := fun h h' => ⟨by rw [eb, if_pos h, if_neg h'], by rw [er, if_pos h, if_neg h']⟩
 have w3 : c = true -> d = true -> 1000 < n -> false = b0 /\ 4 = r0 := fun h h' h2 => ⟨by rw [eb, if_pos h, if_pos h', if_pos h2], by rw [er, if_pos h, if_pos h', if_pos h2]⟩
 have w4 : c = true -> d = true -> ¬ 1000 < n -> o = b0 /\ 0 = r0 := fun h h' h2 => ⟨by rw [eb, if_pos h, if_pos h', if_neg h2], by rw [er, if_pos h, if_pos h', if_neg h2]⟩
 have w5 : ∀ {b b' : Bool} {i i' : Int}, b = b' /\ i = i' -> Value.tuple #[.bool b, .int .i64 i] = Value.tuple #[.bool b', .int .i64 i'] := fun h => by rw [h.1, h.2]
 clear eb er
 refine Con.of ttOk mixed Tryz.func63 {} .nil 0 (by kernel_rfl) (fun P' E hP hE => ?_)
 cbv
 refine CallTo.w hP hE kcan ⟨(by subst hE; exact Sm.of (c := cP) tk9), trivial⟩ ?_
 cbv
 refine fork.mk ?_ ?_
 ·intro g
  have c1 : ¬ c = true := by subst hE; simpa [Env.std] using g
  have hr := w1 c1
  cbv
  exact w5 hr
 ·intro g
  have c1 : c = true := by subst hE; simpa [Env.std] using g
  clear g
  cbv
  refine CallTo.w hP hE kcan2 ⟨⟨cP_ok, rfl, rfl, Nat.le_refl _⟩, trivial⟩ ?_
  cbv
  refine fork.mk ?_ ?_
  ·intro g
   have c2 : ¬ d = true := by subst hE; simpa [Env.std] using g
   have hr := w2 c1 c2
   cbv
   exact w5 hr
  ·intro g
   have c2 : d = true := by subst hE; simpa [Env.std] using g
   clear g
   cbv
   refine fork.mk ?_ ?_
   ·intro g
    have c3 : 1000 < n := by subst hE; rw [<- hln]; simpa [Env.std] using g
    have hr := w3 c1 c2 c3
    cbv
    exact w5 hr
   ·intro g
    have c3 : ¬ 1000 < n := by subst hE; rw [<- hln]; simpa [Env.std] using g
    have hr := w4 c1 c2 c3
    clear g
    cbv
    refine CallTo.w hP hE kodd ⟨(by subst hE; exact Sm.of (c := cP) tk9), rfl, trivial⟩ ?_
    cbv
    exact w5 hr
end Go.Proofs.YtfdealobplcboaaGreat.Sx
