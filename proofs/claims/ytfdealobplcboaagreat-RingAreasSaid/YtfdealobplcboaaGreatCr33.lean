/- Part 33 of what the statement needs: an executor of Go texts, arithmetic, and contracts of the functions that are called. -/
import Derived.Test.YtfdealobplcboaaGreatCr25
import Derived.Test.YtfdealobplcboaaGreatCr29
import Derived.Test.YtfdealobplcboaaGreatCr32
set_option linter.unusedVariables false
set_option linter.unusedSimpArgs false
set_option maxRecDepth 100000
set_option maxHeartbeats 16000000
namespace Go.Proofs.YtfdealobplcboaaGreat.Sx
theorem all_tk9 {α : Type} (l : List α) : Env.std.tk α l (Env.std.len α l) = l := by
 rw [s_tk, s_len]; exact List.take_of_length_le (by omega)
/-- Is a list a ring of at most 14 vertices? -/
def fineB (l : List Pt) : Bool := !bigG l && (decide (l.length <= 14) && decide (chkA l = 0))
theorem fine_q (l : List Pt) (hl : l.length <= maxLen) : Con Tryz.prog 51 [.ro cP l] (.v (.bool (fineB l))) := by
 have kg := great24_con l hl
 have kc : bigG l = false -> Con Tryz.prog 47 [.ro cP l] (.v (.int .i64 (chkA l))) := fun h => chk_a (bigC_is h) hl (by decide) (by decide)
 obtain ⟨r, er⟩ : ∃ r, r = fineB l := ⟨_, rfl⟩
 rw [<- er]
 unfold fineB at er
 obtain ⟨ga, ega⟩ : ∃ r, r = bigG l := ⟨_, rfl⟩
 obtain ⟨c, ec⟩ : ∃ r, r = chkA l := ⟨_, rfl⟩
 obtain ⟨n, hn⟩ : ∃ n : Int, n = l.length := ⟨_, rfl⟩
 have hln : Env.std.len Pt l = n := by rw [s_len, hn]
 have tkl : Env.std.tk Pt l (Env.std.len Pt l) = l := by rw [s_tk, s_len]; exact List.take_of_length_le (by omega)
 rw [<- ega] at kg kc er
 rw [<- ec] at kc er
 have w1 : ga = true -> false = r := fun h => by rw [er, h]; rfl
 have w2 : ga = false -> ¬ n <= 14 -> false = r := fun h h' => by rw [er, h, decide_eq_false (by omega)]; rfl
 have w3 : ga = false -> n <= 14 -> Env.std.ic .eql c 0 = r := fun h h' => by rw [er, h, decide_eq_true (by omega)]; rfl
 clear er ega ec hn hl
 refine Con.of ttOk mixed Tryz.func51 {} .nil 0 (by kernel_rfl) (fun P' E hP hE => ?_)
 cbv
 refine CallTo.w hP hE kg ⟨(by subst hE; exact Sm.of (c := cP) tkl), trivial⟩ ?_
 cbv
 refine fork.mk ?_ ?_
 ·intro g
  have c1 : ga = false := by subst hE; simpa [Env.std] using g
  have kc := kc c1
  clear g
  cbv
  refine fork.mk ?_ ?_
  ·intro g
   have c2 : n <= 14 := by subst hE; rw [<- hln]; simpa [Env.std] using g
   have hr := w3 c1 c2
   clear g
   cbv
   refine CallTo.w hP hE kc ⟨(by subst hE; exact Sm.of (c := cP) tkl), trivial⟩ ?_
   cbv
   subst hE
   exact congrArg Value.bool hr
  ·intro g
   have c2 : ¬ n <= 14 := by subst hE; rw [<- hln]; simpa [Env.std] using g
   have hr := w2 c1 c2
   cbv
   exact congrArg Value.bool hr
 ·intro g
  have c1 : ga = true := by subst hE; simpa [Env.std] using g
  have hr := w1 c1
  cbv
  exact congrArg Value.bool hr
/-- What a ring of at most 14 vertices is. -/
structure Fine (l : List Pt) (A : List Pq) : Prop where
 eq : l = A.map crP
 len : A.length = l.length
 h3 : 3 <= l.length
 h14 : l.length <= 14
 is : ∀ p ∈ l, IsP 24 p p.q
 bd : ∀ p ∈ A, BdP 24 p
 fl : ¬ 0 <= flatI A
 cr : ¬ crossB A = true
 ar : ¬ cmpQ (areaQ A) 0 <= 0
 fi : firstI A = 0
theorem fine_ex {l : List Pt} (h : fineB l = true) : ∃ A, Fine l A := by
 unfold fineB at h
 simp only [Bool.and_eq_true, Bool.not_eq_true', decide_eq_true_iff] at h
 obtain ⟨hg, h14, hc⟩ := h
 have his := bigC_is hg
 unfold chkA at hc
 by_cases c0 : l.length < 3 \/ 64 < l.length
 ·rw [if_pos c0] at hc; exact absurd hc (by decide)
 ·rw [if_neg c0] at hc
  unfold chkI at hc
  by_cases c1 : canL l = true
  ·rw [if_pos c1] at hc
   by_cases c2 : 0 <= flatI (l.map Pt.q)
   ·rw [if_pos c2] at hc; exact absurd hc (by decide)
   ·rw [if_neg c2] at hc
    by_cases c3 : crossB (l.map Pt.q) = true
    ·rw [if_pos c3] at hc; exact absurd hc (by decide)
    ·rw [if_neg c3] at hc
     by_cases c4 : cmpQ (areaQ (l.map Pt.q)) 0 <= 0
     ·rw [if_pos c4] at hc; exact absurd hc (by decide)
     ·rw [if_neg c4] at hc
      by_cases c5 : ((firstI (l.map Pt.q) : Nat) : Int) = 0
      ·refine ⟨l.map Pt.q, canL_eq c1, List.length_map _, by omega, h14, his, ?_, c2, c3, c4, by omega⟩
       intro p hp
       obtain ⟨x, hx, rfl⟩ := List.mem_map.1 hp
       exact (his x hx).b
      ·rw [if_neg c5] at hc; exact absurd hc (by decide)
  ·rw [if_neg c1] at hc; exact absurd hc (by decide)
theorem area_of {k : Nat} (A : List Pq) (hb : ∀ p ∈ A, BdP k p) (hl : A.length <= 4096) (hk : 40960 * k + 40960 <= 134217728) (hk1 : 1 <= k) : Con Tryz.prog 53 [.ro cP (A.map crP)] (.v (cr (areaQ A)).v) := by
 have h := area_q (k := k) (ps := A.map crP) (fun p hp => by
  obtain ⟨x, hx, rfl⟩ := List.mem_map.1 hp
  rw [q_crP]; exact (hb x hx).is) (by rw [List.length_map]; exact hl) hk hk1
 rw [map_q] at h
 exact h
/-- The list that is moved, so far. -/
structure MovI (A : List Pq) (V : Pq) (n i L : Int) (out : List Pt) : Prop where
 h0 : 0 <= i
 h1 : i <= n
 eq : out = ((A.map (·.add V)).take i.toNat).map crP
 len : L = out.length
structure MovF (A : List Pq) (l : List Pt) (v : Pt) (n i L : Int) (out : List Pt) (j : Int) (p q : Pt) (L' : Int) (out' : List Pt) : Prop where
 in1 : 0 <= i /\ i < (l.length : Int)
 add : Env.std.ib .add .i64 i 1 = j
 g1 : Env.std.get Pt l i zQ = p
 kad : Con Tryz.prog 54 [.v p.v, .v v.v] (.v q.v)
 app : Env.std.app Pt (Env.std.tk Pt out L) [q] = out'
 fit : Env.std.fits (Env.std.ad L (Env.std.len Pt [q])) 80
 len : Env.std.ad L (Env.std.len Pt [q]) = L'
 inv : MovI A v.q n j L' out'
 mu : (n - j).toNat < (n - i).toNat
theorem movF_ex {A : List Pq} {l : List Pt} {v : Pt} (hf : Fine l A) (hv : IsP 24 v v.q) {n i L : Int} {out : List Pt} (hn : n = (l.length : Int)) (h : MovI A v.q n i L out) (hi : i < n) : ∃ j p q L' out', MovF A l v n i L out j p q L' out' := by
 have h14 := hf.h14
 obtain ⟨j, p, hp⟩ := lstF_ex hn (by omega) h.h0 hi
 have h0 := h.h0
 obtain ⟨q, eq, hq, kq⟩ := vadd_p (hf.is p hp.m1) hv (by omega)
 have hlen := h.len
 have hol : out.length <= 14 := by rw [h.eq, List.length_map, List.length_take, List.length_map]; have := hf.len; omega
 have hlt : i.toNat < (A.map (·.add v.q)).length := by rw [List.length_map, hf.len]; omega
 have hpq : p.q = A[i.toNat]'(by rw [hf.len]; omega) := by
  have h9 := hp.g1
  have h8 : Env.std.get Pt l i zQ = l.getD i.toNat zQ := rfl
  rw [h8] at h9
  have hlt2 : i.toNat < A.length := by rw [hf.len]; omega
  rw [hf.eq, List.getD_eq_getElem?_getD, List.getElem?_map, List.getElem?_eq_getElem hlt2] at h9
  have h7 : crP (A[i.toNat]) = p := h9
  rw [<- h7, q_crP]
 refine ⟨j, p, q, L + 1, out ++ [q], hp.in1, hp.add, hp.g1, kq, by rw [s_app, s_tk, List.take_of_length_le (by omega)], ?_, rfl, ⟨hp.j0, hp.j1, ?_, by rw [hlen]; simp⟩, hp.mu⟩
 ·rw [s_fits]
  show 0 <= L + 1 /\ L + 1 <= _ /\ (L + 1) * 80 <= _
  omega
 ·have e2 : j.toNat = i.toNat + 1 := by rw [hp.ej]; omega
  rw [e2, List.take_add_one, List.map_append, h.eq, List.getElem?_eq_getElem hlt, eq, List.getElem_map, hpq]; rfl
structure RaF (l : List Pt) (v : Pt) (x y : Int) (A : List Pq) (a nn b1 b2 : R) (M T F S1 S2 : List Pt) : Prop where
 fine : Fine l A
 hv : IsP 24 v v.q
 mEq : M = (A.map (·.add v.q)).map crP
 k1 : Con Tryz.prog 53 [.ro cP l] (.v a.v)
 k2 : Con Tryz.prog 29 [.v a.v] (.v (.int .i64 1))
 k3 : Con Tryz.prog 57 [.ro cP l] (.own 25 cP T)
 k3a : Con Tryz.prog 53 [.ro cP T] (.v nn.v)
 k3n : Con Tryz.prog 58 [.v a.v] (.v nn.v)
 k4 : Con Tryz.prog 53 [.ro cP M] (.v a.v)
 k5 : Con Tryz.prog 59 [.ro cP l, .v (.int .i64 x)] (.own 25 cP F)
 k5a : Con Tryz.prog 53 [.ro cP F] (.v a.v)
 k6 : Con Tryz.prog 53 [.ro cP S1] (.v b1.v)
 k7 : Con Tryz.prog 53 [.ro cP S2] (.v b2.v)
 k8 : Con Tryz.prog 60 [.v b1.v, .v b2.v] (.v a.v)
 s1 : S1 = (l.drop x.toNat).take (y + 1 - x).toNat
 s2 : S2 = l.drop y.toNat ++ l.take (x + 1).toNat
theorem raF_ex {l : List Pt} {v : Pt} {x y : Int} (hf : fineB l = true) (hv : bigC v = false) (h0 : 0 <= x) (h1 : x <= y) (h2 : y < l.length) : ∃ A a nn b1 b2 M T F S1 S2, RaF l v x y A a nn b1 b2 M T F S1 S2 := by
 obtain ⟨A, hA⟩ := fine_ex hf
 have iv := bigC_no hv
 have h3 := hA.h3
 have h14 := hA.h14
 have hlen := hA.len
 have hsub : ∀ (B : List Pq), (∀ p ∈ B, p ∈ A) -> B.length <= 4096 -> Con Tryz.prog 53 [.ro cP (B.map crP)] (.v (cr (areaQ B)).v) := fun B hB hl => area_of B (fun p hp => hA.bd p (hB p hp)) hl (by decide) (by decide)
 have ba := area_bd (k := 24) (l := A) (by omega) hA.bd (by decide)
 have hs : cmpQ (areaQ A) 0 = 1 := by
  have h9 := hA.ar
  have h8 : cmpQ (areaQ A) 0 <= 1 := by unfold cmpQ; split <;> (try split) <;> decide
  omega
 have k2 := sign_q ba.is (by decide)
 rw [hs] at k2
 have k3n := neg_q ba.is (by decide)
 have k1 := hsub A (fun p h => h) (by omega)
 have k3 := turned_q A (by omega) (by omega)
 have k3a := hsub A.reverse (fun p h => List.mem_reverse.1 h) (by rw [List.length_reverse]; omega)
 rw [area_rev] at k3a
 have k4 := area_of (k := 49) (A.map (·.add v.q)) (fun p hp => by
  obtain ⟨z, hz, rfl⟩ := List.mem_map.1 hp
  exact (hA.bd z hz).add iv.b) (by rw [List.length_map]; omega) (by decide) (by decide)
 rw [area_map] at k4
 have k5 := from_q l x h0 (by omega) (by omega) (by omega)
 have eF : l.drop x.toNat ++ l.take x.toNat = (A.drop x.toNat ++ A.take x.toNat).map crP := by rw [hA.eq, List.map_append, List.map_drop, List.map_take]
 rw [eF] at k5
 have k5a := hsub (A.drop x.toNat ++ A.take x.toNat) (fun p h => by
  rcases List.mem_append.1 h with h | h
  ·exact List.mem_of_mem_drop h
  ·exact List.mem_of_mem_take h) (by simp only [List.length_append, List.length_drop, List.length_take]; omega)
 rw [area_from] at k5a
 have hp := area_parts (A := A) (x := x.toNat) (y := y.toNat) (by omega) (by omega)
 have k6 := hsub ((A.drop x.toNat).take (y.toNat + 1 - x.toNat)) (fun p h => List.mem_of_mem_drop (List.mem_of_mem_take h)) (by simp only [List.length_drop, List.length_take]; omega)
 have k7 := hsub (A.drop y.toNat ++ A.take (x.toNat + 1)) (fun p h => by
  rcases List.mem_append.1 h with h | h
  ·exact List.mem_of_mem_drop h
  ·exact List.mem_of_mem_take h) (by simp only [List.length_append, List.length_drop, List.length_take]; omega)
 have q1 := (area_bd (k := 24) (l := (A.drop x.toNat).take (y.toNat + 1 - x.toNat)) (by simp only [List.length_drop, List.length_take]; omega) (fun p h => hA.bd p (List.mem_of_mem_drop (List.mem_of_mem_take h))) (by decide)).is
 have q2 := (area_bd (k := 24) (l := A.drop y.toNat ++ A.take (x.toNat + 1)) (by simp only [List.length_append, List.length_drop, List.length_take]; omega) (fun p h => hA.bd p (by
  rcases List.mem_append.1 h with h | h
  ·exact List.mem_of_mem_drop h
  ·exact List.mem_of_mem_take h)) (by decide)).is
 obtain ⟨s, es, _, k8⟩ := add_p q1 q2 (by decide)
 rw [hp] at es
 rw [es] at k8
 refine ⟨A, _, _, _, _, _, _, _, _, _, hA, iv, rfl, by rw [<- hA.eq] at k1; exact k1, k2, by rw [<- hA.eq] at k3; exact k3, k3a, k3n, k4, k5, k5a, k6, k7, k8, ?_, ?_⟩
 ·rw [hA.eq, List.map_take, List.map_drop, show (y + 1 - x).toNat = y.toNat + 1 - x.toNat from by omega]
 ·rw [hA.eq, List.map_append, List.map_drop, List.map_take, show (x + 1).toNat = x.toNat + 1 from by omega]
theorem areas_ok : InlOk Tryz.prog [(56, Tryz.f56, { un := [(3, 3), (11, 3)] }), (134, Tryz.f134, {}), (55, Tryz.f55, {})] :=
 InlOk.cons Tryz.func56 (by kernel_rfl) (InlOk.cons Tryz.func134 (by kernel_rfl) (InlOk.cons Tryz.func55 (by kernel_rfl) .nil))
theorem ringAreas_con (l : List Pt) (hl : l.length <= maxLen) (v : Pt) (i9 : Int) (i0 : 0 <= i9) (i1 : i9 < 256) (k : Int) (k0 : 0 <= k) (k1 : k < 256) : Con Tryz.prog 10 [.ro cP l, .v v.v, .v (.int .u8 i9), .v (.int .u8 k)] (.v (.bool true)) := by
 have kf := fine_q l hl
 have kg := great1_con v
 obtain ⟨n, hn⟩ : ∃ n : Int, n = l.length := ⟨_, rfl⟩
 have hln : Env.std.len Pt l = n := by rw [s_len, hn]
 have tkl : Env.std.tk Pt l (Env.std.len Pt l) = l := by rw [s_tk, s_len]; exact List.take_of_length_le (by omega)
 obtain ⟨fb, efb⟩ : ∃ r, r = fineB l := ⟨_, rfl⟩
 obtain ⟨gp, egp⟩ : ∃ r, r = bigC v := ⟨_, rfl⟩
 rw [<- efb] at kf
 rw [<- egp] at kg
 obtain ⟨x, ex⟩ : ∃ r : Int, r = Env.std.mm false (i9.tmod n) (k.tmod n) := ⟨_, rfl⟩
 obtain ⟨y, ey⟩ : ∃ r : Int, r = Env.std.mm true (i9.tmod n) (k.tmod n) := ⟨_, rfl⟩
 have hxy : 3 <= n -> 0 <= x /\ x <= y /\ y < n := fun h => by
  have a1 : 0 <= i9.tmod n := Int.tmod_nonneg _ i0
  have a2 : 0 <= k.tmod n := Int.tmod_nonneg _ k0
  have a3 : i9.tmod n < n := by rw [Int.tmod_eq_emod_of_nonneg i0]; exact Int.emod_lt_of_pos _ (by omega)
  have a4 : k.tmod n < n := by rw [Int.tmod_eq_emod_of_nonneg k0]; exact Int.emod_lt_of_pos _ (by omega)
  rw [ex, ey]
  show 0 <= (if k.tmod n < i9.tmod n then k.tmod n else i9.tmod n) /\ (if k.tmod n < i9.tmod n then k.tmod n else i9.tmod n) <= (if k.tmod n > i9.tmod n then k.tmod n else i9.tmod n) /\ (if k.tmod n > i9.tmod n then k.tmod n else i9.tmod n) < n
  split <;> split <;> omega
 have h3 : fb = true -> 3 <= n := fun h => by
  obtain ⟨A, hA⟩ := fine_ex (by rw [<- efb]; exact h)
  have := hA.h3
  omega
 have hall : fb = true -> ¬ gp = true -> ∃ A a nn b1 b2 M T F S1 S2, RaF l v x y A a nn b1 b2 M T F S1 S2 := fun c1 c2 => by
  have h := hxy (h3 c1)
  exact raF_ex (by rw [<- efb]; exact c1) (by rw [<- egp]; simpa using c2) h.1 h.2.1 (by omega)
 have hx9 : Env.std.mm false (Env.std.ib .rem .i64 (Env.std.cv .i64 i9) (Env.std.len Pt l)) (Env.std.ib .rem .i64 (Env.std.cv .i64 k) (Env.std.len Pt l)) = x := by
  rw [hln, ex, s_cv, s_cv, w64 (by omega) (by omega), w64 (by omega) (by omega), s_rem, s_rem]
 have hy9 : Env.std.mm true (Env.std.ib .rem .i64 (Env.std.cv .i64 i9) (Env.std.len Pt l)) (Env.std.ib .rem .i64 (Env.std.cv .i64 k) (Env.std.len Pt l)) = y := by
  rw [hln, ey, s_cv, s_cv, w64 (by omega) (by omega), w64 (by omega) (by omega), s_rem, s_rem]
 clear efb egp hl ex ey i0 i1 k0 k1
 refine Con.of ttOk mixed Tryz.func10 { ord := [(11, [0, 1, 2, 3, 4, 5, 6, 7, 8, 9, 10, 11, 12, 13, 14, 15, 16, 17, 18, 19]), (13, [0, 1, 2, 3, 4, 5, 6, 7, 8, 9]), (14, [0, 1, 2, 3, 4, 7, 5, 6, 8, 9, 10, 11, 12, 14, 13, 15, 16, 17, 18, 19, 22, 20, 21, 23, 24]), (16, [0, 2, 5, 1, 3, 4, 6, 7, 8, 9, 10])] } areas_ok 4 (by kernel_rfl) (fun P' E hP hE => ?_)
 cbv
 refine CallTo.w hP hE kf ⟨(by subst hE; exact Sm.of (c := cP) tkl), trivial⟩ ?_
 cbv
 refine fork.mk ?_ ?_
 ·intro g
  cbv
  refine awake10_c hP hE ?_
  cbv
 intro g
 have c1 : fb = true := by subst hE; simpa [Env.std] using g
 clear g
 cbv
 refine CallTo.w hP hE kg ⟨rfl, trivial⟩ ?_
 cbv
 refine fork.mk ?_ ?_
 ·intro g
  cbv
  refine awake10_c hP hE ?_
  cbv
 intro g
 have c2 : ¬ gp = true := by simpa using g
 clear g
 cbv
 refine Exists.elim (hall c1 c2) ?_
 intro A h
 refine Exists.elim h ?_
 intro a h
 refine Exists.elim h ?_
 intro nn h
 refine Exists.elim h ?_
 intro b1 h
 refine Exists.elim h ?_
 intro b2 h
 refine Exists.elim h ?_
 intro M h
 refine Exists.elim h ?_
 intro T h
 refine Exists.elim h ?_
 intro F h
 refine Exists.elim h ?_
 intro S1 h
 refine Exists.elim h ?_
 intro S2 hf
 have kk1 := hf.k1
 have kk2 := hf.k2
 have kk3 := hf.k3
 have kk3a := hf.k3a
 have kk3n := hf.k3n
 have kk4 := hf.k4
 have kk5 := hf.k5
 have kk5a := hf.k5a
 have kk6 := hf.k6
 have kk7 := hf.k7
 have kk8 := hf.k8
 have hm := hxy (h3 c1)
 have hn : n = (l.length : Int) := hn
 have h3 := h3 c1
 have h14 : n <= 14 := by have := hf.fine.h14; omega
 have hnz : Env.std.nz .rem (Env.std.len Pt l) := by show (l.length : Int) ≠ 0; omega
 obtain ⟨j0, hj0⟩ : ∃ i : Int, i = 0 := ⟨_, rfl⟩
 obtain ⟨l0, hl0⟩ : ∃ i : Int, i = 0 := ⟨_, rfl⟩
 obtain ⟨o0, ho0⟩ : ∃ l : List Pt, l = [] := ⟨_, rfl⟩
 have hp0 : MovI A v.q n j0 l0 o0 := ⟨by omega, by omega, by rw [ho0, hj0]; rfl, by rw [hl0, ho0]; rfl⟩
 have hrnd : ∀ i L out, MovI A v.q n i L out -> i < n -> ∃ j p q L' out', MovF A l v n i L out j p q L' out' := fun i L out h h' => movF_ex hf.fine hf.hv hn h h'
 have hfin : ∀ i L out, MovI A v.q n i L out -> ¬ i < n -> Env.std.tk Pt out L = M := fun i L out h h' => by
  have e : out = M := by
   rw [h.eq, hf.mEq, List.take_of_length_le (by rw [List.length_map, hf.fine.len]; have := h.h1; omega)]
  rw [s_tk, List.take_of_length_le (by have := h.len; omega), e]
 have eY1 : Env.std.ib .add .i64 (Env.std.mm true (Env.std.ib .rem .i64 (Env.std.cv .i64 i9) (Env.std.len Pt l)) (Env.std.ib .rem .i64 (Env.std.cv .i64 k) (Env.std.len Pt l))) 1 = y + 1 := by rw [hy9, s_add, w64 (by omega) (by omega)]
 have eX1 : Env.std.ib .add .i64 (Env.std.mm false (Env.std.ib .rem .i64 (Env.std.cv .i64 i9) (Env.std.len Pt l)) (Env.std.ib .rem .i64 (Env.std.cv .i64 k) (Env.std.len Pt l))) 1 = x + 1 := by rw [hx9, s_add, w64 (by omega) (by omega)]
 have q1 : Env.std.rng (Env.std.mm false (Env.std.ib .rem .i64 (Env.std.cv .i64 i9) (Env.std.len Pt l)) (Env.std.ib .rem .i64 (Env.std.cv .i64 k) (Env.std.len Pt l))) (Env.std.ib .add .i64 (Env.std.mm true (Env.std.ib .rem .i64 (Env.std.cv .i64 i9) (Env.std.len Pt l)) (Env.std.ib .rem .i64 (Env.std.cv .i64 k) (Env.std.len Pt l))) 1) (Env.std.len Pt l) := by rw [hx9, eY1, hln]; exact ⟨by omega, by omega, by omega⟩
 have q2 : Env.std.rng (Env.std.mm true (Env.std.ib .rem .i64 (Env.std.cv .i64 i9) (Env.std.len Pt l)) (Env.std.ib .rem .i64 (Env.std.cv .i64 k) (Env.std.len Pt l))) (Env.std.len Pt l) (Env.std.len Pt l) := by rw [hy9, hln]; exact ⟨by omega, by omega, by omega⟩
 have q3 : Env.std.rng 0 (Env.std.ib .add .i64 (Env.std.mm false (Env.std.ib .rem .i64 (Env.std.cv .i64 i9) (Env.std.len Pt l)) (Env.std.ib .rem .i64 (Env.std.cv .i64 k) (Env.std.len Pt l))) 1) (Env.std.len Pt l) := by rw [eX1, hln]; exact ⟨by omega, by omega, by omega⟩
 have e9 : Env.std.sb (Env.std.ib .add .i64 (Env.std.mm true (Env.std.ib .rem .i64 (Env.std.cv .i64 i9) (Env.std.len Pt l)) (Env.std.ib .rem .i64 (Env.std.cv .i64 k) (Env.std.len Pt l))) 1) (Env.std.mm false (Env.std.ib .rem .i64 (Env.std.cv .i64 i9) (Env.std.len Pt l)) (Env.std.ib .rem .i64 (Env.std.cv .i64 k) (Env.std.len Pt l))) = y + 1 - x := by rw [hx9, eY1]; rfl
 have ne9 : ¬ Env.std.sb (Env.std.ib .add .i64 (Env.std.mm true (Env.std.ib .rem .i64 (Env.std.cv .i64 i9) (Env.std.len Pt l)) (Env.std.ib .rem .i64 (Env.std.cv .i64 k) (Env.std.len Pt l))) 1) (Env.std.mm false (Env.std.ib .rem .i64 (Env.std.cv .i64 i9) (Env.std.len Pt l)) (Env.std.ib .rem .i64 (Env.std.cv .i64 k) (Env.std.len Pt l))) = 0 := by rw [e9]; omega
 have z1 : S1 = Env.std.wnd Pt l (Env.std.mm false (Env.std.ib .rem .i64 (Env.std.cv .i64 i9) (Env.std.len Pt l)) (Env.std.ib .rem .i64 (Env.std.cv .i64 k) (Env.std.len Pt l))) (Env.std.sb (Env.std.ib .add .i64 (Env.std.mm true (Env.std.ib .rem .i64 (Env.std.cv .i64 i9) (Env.std.len Pt l)) (Env.std.ib .rem .i64 (Env.std.cv .i64 k) (Env.std.len Pt l))) 1) (Env.std.mm false (Env.std.ib .rem .i64 (Env.std.cv .i64 i9) (Env.std.len Pt l)) (Env.std.ib .rem .i64 (Env.std.cv .i64 k) (Env.std.len Pt l)))) := by rw [e9, hx9, hf.s1]; rfl
 have lS1 : S1.length <= 14 := by rw [hf.s1, List.length_take, List.length_drop]; omega
 have fS1 : Env.std.fits (Env.std.ad 0 (Env.std.len Pt S1)) 80 := by
  rw [s_fits]
  show 0 <= 0 + (S1.length : Int) /\ 0 + (S1.length : Int) <= _ /\ (0 + (S1.length : Int)) * 80 <= _
  omega
 have tS1 : Env.std.tk Pt (Env.std.app Pt (Env.std.tk Pt [] 0) S1) (Env.std.ad 0 (Env.std.len Pt S1)) = S1 := by
  show S1.take (0 + (S1.length : Int)).toNat = S1
  exact List.take_of_length_le (by omega)
 obtain ⟨d1, hd1⟩ : ∃ d, d = l.drop y.toNat := ⟨_, rfl⟩
 obtain ⟨d2, hd2⟩ : ∃ d, d = l.take (x + 1).toNat := ⟨_, rfl⟩
 have e8 : Env.std.sb (Env.std.len Pt l) (Env.std.mm true (Env.std.ib .rem .i64 (Env.std.cv .i64 i9) (Env.std.len Pt l)) (Env.std.ib .rem .i64 (Env.std.cv .i64 k) (Env.std.len Pt l))) = n - y := by rw [hy9, hln]; rfl
 have z2 : d1 = Env.std.wnd Pt l (Env.std.mm true (Env.std.ib .rem .i64 (Env.std.cv .i64 i9) (Env.std.len Pt l)) (Env.std.ib .rem .i64 (Env.std.cv .i64 k) (Env.std.len Pt l))) (Env.std.sb (Env.std.len Pt l) (Env.std.mm true (Env.std.ib .rem .i64 (Env.std.cv .i64 i9) (Env.std.len Pt l)) (Env.std.ib .rem .i64 (Env.std.cv .i64 k) (Env.std.len Pt l)))) := by
  rw [e8, hy9, hd1]; exact (List.take_of_length_le (by rw [List.length_drop]; omega)).symm
 have z3 : d2 = Env.std.tk Pt l (Env.std.ib .add .i64 (Env.std.mm false (Env.std.ib .rem .i64 (Env.std.cv .i64 i9) (Env.std.len Pt l)) (Env.std.ib .rem .i64 (Env.std.cv .i64 k) (Env.std.len Pt l))) 1) := by rw [eX1, s_tk, hd2]
 have hc : CatF (Env.std.sb (Env.std.len Pt l) (Env.std.mm true (Env.std.ib .rem .i64 (Env.std.cv .i64 i9) (Env.std.len Pt l)) (Env.std.ib .rem .i64 (Env.std.cv .i64 k) (Env.std.len Pt l)))) (Env.std.ib .add .i64 (Env.std.mm false (Env.std.ib .rem .i64 (Env.std.cv .i64 i9) (Env.std.len Pt l)) (Env.std.ib .rem .i64 (Env.std.cv .i64 k) (Env.std.len Pt l))) 1) := CatF.of (by rw [e8]; omega) (by rw [eX1]; omega) (by rw [e8, eX1]; omega) (by rw [e8, eX1]; omega)
 have hr : CatR (Env.std.sb (Env.std.len Pt l) (Env.std.mm true (Env.std.ib .rem .i64 (Env.std.cv .i64 i9) (Env.std.len Pt l)) (Env.std.ib .rem .i64 (Env.std.cv .i64 k) (Env.std.len Pt l)))) (Env.std.ib .add .i64 (Env.std.mm false (Env.std.ib .rem .i64 (Env.std.cv .i64 i9) (Env.std.len Pt l)) (Env.std.ib .rem .i64 (Env.std.cv .i64 k) (Env.std.len Pt l))) 1) d1 d2 S2 := by
  rw [hf.s2, <- hd1, <- hd2]
  exact CatR.of (by rw [hd1, hd2, List.length_drop, List.length_take]; omega)
 have f1 := hc.f1
 have f2 := hc.f2
 have f3 := hc.f3
 have r3 := hc.r3
 have r4 := hc.r4
 have t1 := hr.t1
 have t2 := hr.t2
 have tS2 := (congrArg (fun z => Env.std.tk Pt z (Env.std.ad (Env.std.ad 0 (Env.std.len Pt d1)) (Env.std.len Pt d2))) hr.row).trans hr.tk
 clear hc hr hd1 hd2 eY1 eX1 e9 e8 lS1 hm h14
 clear hf h hall hxy
 refine CallTo.w hP hE kk1 ⟨(by subst hE; exact Sm.of (c := cP) tkl), trivial⟩ ?_
 cbv
 refine LoopTo.nil 10 25 cP cP_ok rfl ?_
 refine LoopTo.by (ι := Int × Int × List Pt) (fun x => [(29, .v (.int .i64 n)), (30, .v (.int .i64 x.1)), (10, .s 6 x.2.1)]) (fun x => [(6, .row true 25 cP x.2.2)]) (fun x => MovI A v.q n x.1 x.2.1 x.2.2) (fun x => (n - x.1).toNat) (j0, l0, o0) [] hp0 ?_ ?_
 ·cbv
  subst hE
  and_intros
  all_goals first
   | exact True.intro
   | rfl
   | exact congrArg (fun x => AV.v (Value.int .i64 x)) hn.symm
   | exact congrArg (fun x => Value.int .i64 x) hj0.symm
   | exact congrArg (fun x => AV.s 6 x) hl0.symm
   | exact Sm.of ho0.symm
   | (intro h; cases h; done)
   | (simp [hl0]; done)
   | fail
 ·rintro ⟨i, L, out⟩ hi
  have hi : MovI A v.q n i L out := hi
  clear hp0
  cbv
  refine fork.mk ?_ ?_
  ·intro g
   have hlt : i < n := by subst hE; simpa [Env.std] using g
   refine Exists.elim (hrnd i L out hi hlt) ?_
   intro j h
   refine Exists.elim h ?_
   intro p h
   refine Exists.elim h ?_
   intro q h
   refine Exists.elim h ?_
   intro L' h
   refine Exists.elim h ?_
   intro out' hf
   have in1 := hf.in1
   have hadd := hf.add
   have hg1 := hf.g1
   have kad := hf.kad
   have happ := hf.app
   have hfit := hf.fit
   have hlen := hf.len
   have hinv := hf.inv
   have hmu := hf.mu
   clear hf h hi hlt g hfin hrnd
   cbv
   refine Need.mk (by subst hE; exact in1) ?_
   cbv
   refine CallTo.w hP hE kad ⟨(by subst hE; exact congrArg (fun p : Pt => p.v) hg1), rfl, trivial⟩ ?_
   cbv
   refine Need.mk (by subst hE; exact hfit) ?_
   cbv
   refine ⟨(j, L', out'), [0, 1, 2, 3, 4, 5, 9], hinv, hmu, ?_⟩
   cbv
   subst hE
   and_intros
   all_goals first
    | exact True.intro
    | rfl
    | exact congrArg (fun x => AV.v (Value.int .i64 x)) hadd
    | exact congrArg (fun x => Value.int .i64 x) hadd
    | exact congrArg (fun x => AV.s 9 x) hlen
    | exact Sm.of happ
    | (simp; done)
    | (intro h; cases h; done)
    | fail
  ·intro g
   have hge : ¬ i < n := by subst hE; simpa [Env.std] using g
   have hM := hfin i L out hi hge
   clear hi hge hfin hrnd g
   cbv
   refine Need.mk (by subst hE; exact hnz) ?_
   cbv
   refine Need.mk (by subst hE; exact hnz) ?_
   cbv
   refine Need.mk (by subst hE; exact hnz) ?_
   cbv
   refine Need.mk (by subst hE; exact hnz) ?_
   cbv
   refine Need.mk (by subst hE; exact q1) ?_
   cbv
   refine NilTo.mk ?_
   intro w hw
   refine fork.mk ?_ ?_
   ·intro g
    exact absurd (show _ = (0 : Int) by subst hE; exact hw g) (by subst hE; exact ne9)
   intro g
   clear g hw
   cbv
   refine ⟨S1, (by subst hE; exact Sm.of (c := cP) z1), ?_⟩
   cbv
   refine Need.mk (by subst hE; exact fS1) ?_
   cbv
   refine Need.mk (by subst hE; exact q2) ?_
   cbv
   refine Need.mk (by subst hE; exact q3) ?_
   cbv
   refine forkNo (by subst hE; exact f1) ?_
   cbv
   refine forkNo (by subst hE; exact f2) ?_
   cbv
   refine forkNo (by subst hE; exact f2) ?_
   cbv
   refine forkYes (by subst hE; exact f3) ?_
   cbv
   refine Need.mk (by subst hE; and_intros <;> exact Int.le_refl _) ?_
   cbv
   refine Need.mk (by subst hE; exact r3) ?_
   cbv
   refine Need.mk (by subst hE; exact r4) ?_
   cbv
   refine ⟨d1, (by subst hE; exact Sm.of (c := cP) z2), ?_⟩
   cbv
   refine Need.mk (by subst hE; exact t1) ?_
   cbv
   refine ⟨d2, (by subst hE; exact Sm.of (c := cP) z3), ?_⟩
   cbv
   refine Need.mk (by subst hE; exact t2) ?_
   cbv
   refine CallTo.w hP hE kk2 ⟨rfl, trivial⟩ ?_
   cbv
   refine forkNo (by subst hE; rfl) ?_
   cbv
   refine CallTo.con hP hE kk3 ⟨(by subst hE; exact Sm.of (c := cP) tkl), trivial⟩ ?_
   cbv
   refine CallTo.w hP hE kk3a ⟨(by subst hE; exact Sm.of (c := cP) (all_tk9 T)), trivial⟩ ?_
   cbv
   refine CallTo.w hP hE kk3n ⟨rfl, trivial⟩ ?_
   cbv
   refine forkNo (by subst hE; exact (show (!eqCells nn.c nn.c) = false by rw [(eqc_R nn nn).2 rfl]; rfl)) ?_
   cbv
   refine CallTo.w hP hE kk4 ⟨(by subst hE; exact Sm.of (c := cP) hM), trivial⟩ ?_
   cbv
   refine forkNo (by subst hE; exact (show (!eqCells a.c a.c) = false by rw [(eqc_R a a).2 rfl]; rfl)) ?_
   cbv
   refine CallTo.con hP hE kk5 ⟨(by subst hE; exact Sm.of (c := cP) tkl), (by subst hE; exact congrArg (fun x => Value.int .i64 x) hx9), trivial⟩ ?_
   cbv
   refine CallTo.w hP hE kk5a ⟨(by subst hE; exact Sm.of (c := cP) (all_tk9 F)), trivial⟩ ?_
   cbv
   refine forkNo (by subst hE; exact (show (!eqCells a.c a.c) = false by rw [(eqc_R a a).2 rfl]; rfl)) ?_
   cbv
   refine CallTo.w hP hE kk6 ⟨(by subst hE; exact Sm.of (c := cP) tS1), trivial⟩ ?_
   cbv
   refine CallTo.w hP hE kk7 ⟨(by subst hE; exact Sm.of (c := cP) tS2), trivial⟩ ?_
   cbv
   refine CallTo.w hP hE kk8 ⟨rfl, rfl, trivial⟩ ?_
   cbv
   refine forkYes (by subst hE; exact (eqc_R a a).2 rfl) ?_
   cbv
   refine awake10_c hP hE ?_
   cbv
end Go.Proofs.YtfdealobplcboaaGreat.Sx
