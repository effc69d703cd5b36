/- Part 30 of what the statement needs: an executor of Go texts, arithmetic, and contracts of the functions that are called. -/
import Derived.Test.YtfdealobplcboaaGreatCr24
import Derived.Test.YtfdealobplcboaaGreatCr25
import Derived.Test.YtfdealobplcboaaGreatCr29
set_option linter.unusedVariables false
set_option linter.unusedSimpArgs false
set_option maxRecDepth 100000
set_option maxHeartbeats 16000000
namespace Go.Proofs.YtfdealobplcboaaGreat.Sx
theorem all_tk' {α : Type} (l : List α) : Env.std.tk α l (Env.std.len α l) = l := by
 rw [s_tk, s_len]; exact List.take_of_length_le (by omega)
theorem parI_zero {ps : List Pt} {z : Pt} (hl : ps.length <= 1000) : parI ps z = 0 ↔ canL ps = true /\ canL [z] = true := by
 unfold parI
 by_cases h1 : canL ps = true
 ·by_cases h2 : canL [z] = true
  ·rw [if_pos h1, if_pos h2, if_neg (by omega)]
   exact ⟨fun _ => ⟨h1, h2⟩, fun _ => rfl⟩
  ·rw [if_pos h1, if_neg h2]
   exact ⟨fun h => absurd h (by decide), fun h => absurd h.2 h2⟩
 ·rw [if_neg h1]
  exact ⟨fun h => absurd h (by decide), fun h => absurd h.1 h1⟩
theorem par_bad {ps : List Pt} {z : Pt} (h : ¬ (canL ps = true /\ canL [z] = true)) : parI ps z = 1 /\ parB ps z = false := by
 unfold parI parB
 by_cases h1 : canL ps = true
 ·by_cases h2 : canL [z] = true
  ·exact absurd ⟨h1, h2⟩ h
  ·rw [if_pos h1, if_neg h2, if_pos h1, if_neg h2]; exact ⟨rfl, rfl⟩
 ·rw [if_neg h1, if_neg h1]; exact ⟨rfl, rfl⟩
theorem par_good {ps : List Pt} {z : Pt} (hl : ps.length <= 1000) (h : canL ps = true /\ canL [z] = true) : parI ps z = 0 /\ parB ps z = oddQ (ps.map Pt.q) z.q := by
 unfold parI parB
 rw [if_pos h.1, if_pos h.2, if_neg (by omega), if_pos h.1, if_pos h.2, if_neg (by omega)]; exact ⟨rfl, rfl⟩
/-- What RingParities says. -/
theorem rp_plain {a b : List Pt} {a0 p : Pt} {r : List Pt} (ha : a = a0 :: r) (h1 : a.length <= 14) (h2 : b.length <= 14) :
  ((parI a p ≠ 0 \/ parI (a0 :: b) p ≠ 0) -> parI (a ++ a0 :: b) p = 1 /\ parB (a ++ a0 :: b) p = false) /\
  (parI a p = 0 -> parI (a0 :: b) p = 0 -> parI (a ++ a0 :: b) p = 0 /\ parB (a ++ a0 :: b) p = (parB a p != parB (a0 :: b) p) /\
   ∃ A : List Pq, a = A.map crP /\ ∀ n : Nat, parI ((A.drop n ++ A.take n).reverse.map crP) p = 0 /\ parB ((A.drop n ++ A.take n).reverse.map crP) p = parB a p) := by
 have l1 : a.length <= 1000 := by omega
 have l2 : (a0 :: b).length <= 1000 := by rw [List.length_cons]; omega
 have l3 : (a ++ a0 :: b).length <= 1000 := by rw [List.length_append, List.length_cons]; omega
 have hc : canL (a ++ a0 :: b) = (canL a && canL (a0 :: b)) := by unfold canL; rw [List.all_append]
 constructor
 ·intro h
  apply par_bad
  rw [Ne, Ne, parI_zero l1, parI_zero l2] at h
  rw [hc, Bool.and_eq_true]
  rintro ⟨⟨c1, c2⟩, c3⟩
  rcases h with h | h
  ·exact h ⟨c1, c3⟩
  ·exact h ⟨c2, c3⟩
 ·intro e1 e2
  have c1 := (parI_zero l1).1 e1
  have c2 := (parI_zero l2).1 e2
  have g1 := par_good l1 c1
  have g2 := par_good l2 c2
  have g3 := par_good (ps := a ++ a0 :: b) l3 ⟨by rw [hc, c1.1, c2.1]; rfl, c1.2⟩
  refine ⟨g3.1, ?_, a.map Pt.q, canL_eq c1.1, fun n => ?_⟩
  ·rw [g3.2, g1.2, g2.2, ha]
   have := odd_two a0.q (r.map Pt.q) (b.map Pt.q) p.q
   simpa using this
  ·have hq : ((((a.map Pt.q).drop n ++ (a.map Pt.q).take n).reverse).map crP).map Pt.q = ((a.map Pt.q).drop n ++ (a.map Pt.q).take n).reverse := by
    rw [List.map_map]
    conv => rhs; rw [<- List.map_id (((a.map Pt.q).drop n ++ (a.map Pt.q).take n).reverse)]
    refine List.map_congr_left fun x _ => ?_
    show (⟨(cr x.x).q, (cr x.y).q⟩ : Pq) = x
    rw [cr_q, cr_q]
   have hcl : canL ((((a.map Pt.q).drop n ++ (a.map Pt.q).take n).reverse).map crP) = true := by
    unfold canL
    rw [List.all_eq_true]
    intro x hx
    obtain ⟨y, _, rfl⟩ := List.mem_map.1 hx
    rw [canP_iff]
    show _ = crP ⟨(cr y.x).q, (cr y.y).q⟩
    rw [cr_q, cr_q]
   have hlen : ((((a.map Pt.q).drop n ++ (a.map Pt.q).take n).reverse).map crP).length <= 1000 := by
    simp only [List.length_map, List.length_reverse, List.length_append, List.length_drop, List.length_take]; omega
   have g4 := par_good (z := p) hlen ⟨hcl, c1.2⟩
   refine ⟨g4.1, ?_⟩
   rw [g4.2, hq, odd_turn, List.take_append_drop, g1.2]
structure RpF (a b : List Pt) (p : Pt) (kk : Int) (a0 : Pt) (x y z : Bool) (e f g : Int) : Prop where
 hget : Env.std.get Pt a 0 zQ = a0
 kA : Con Tryz.prog 63 [.ro cP a, .v p.v] (.v (.tuple #[.bool x, .int .i64 e]))
 kB : Con Tryz.prog 63 [.ro cP (a0 :: b), .v p.v] (.v (.tuple #[.bool y, .int .i64 f]))
 kZ : Con Tryz.prog 63 [.ro cP (a ++ a0 :: b), .v p.v] (.v (.tuple #[.bool z, .int .i64 g]))
 bad : e ≠ 0 \/ f ≠ 0 -> g = 1 /\ z = false
 good : e = 0 -> f = 0 -> g = 0 /\ z = (x != y) /\ ∃ rs ts, Con Tryz.prog 59 [.ro cP a, .v (.int .i64 kk)] (.own 25 cP rs) /\ Con Tryz.prog 57 [.ro cP rs] (.own 25 cP ts) /\ Con Tryz.prog 63 [.ro cP ts, .v p.v] (.v (.tuple #[.bool x, .int .i64 0]))
theorem rpF_ex {a b : List Pt} {p : Pt} {kk : Int} (ga : bigG a = false) (gb : bigG b = false) (gp : bigC p = false) (h0 : a.length ≠ 0) (h1 : a.length <= 14) (h2 : b.length <= 14) (hk0 : 0 <= kk) (hk1 : kk < a.length) : ∃ a0 x y z e f g, RpF a b p kk a0 x y z e f g := by
 obtain ⟨a0, r, rfl⟩ : ∃ a0 r, a = a0 :: r := by
  cases a with
  | nil => exact absurd rfl h0
  | cons a0 r => exact ⟨a0, r, rfl⟩
 have ia := bigC_is ga
 have ib := bigC_is gb
 have ip := bigC_no gp
 have iB : ∀ q ∈ a0 :: b, IsP 24 q q.q := fun q hq => by
  rcases List.mem_cons.1 hq with h | h
  ·exact ia _ (by rw [h]; simp)
  ·exact ib _ h
 have iZ : ∀ q ∈ (a0 :: r) ++ a0 :: b, IsP 24 q q.q := fun q hq => by
  rcases List.mem_append.1 hq with h | h
  ·exact ia _ h
  ·exact iB _ h
 obtain ⟨pl1, pl2⟩ := rp_plain (p := p) (rfl : a0 :: r = a0 :: r) h1 h2
 refine ⟨a0, _, _, _, _, _, _, rfl, parity_q ia (by omega) (by decide) ip, parity_q iB (by rw [List.length_cons]; omega) (by decide) ip, parity_q iZ (by simp only [List.length_append, List.length_cons] at h1 ⊢; omega) (by decide) ip, pl1, fun c1 c2 => ?_⟩
 obtain ⟨q1, q2, A, hA, q3⟩ := pl2 c1 c2
 refine ⟨q1, q2, ((A.drop kk.toNat ++ A.take kk.toNat).map crP), ((A.drop kk.toNat ++ A.take kk.toNat).reverse.map crP), ?_, ?_, ?_⟩
 ·have := from_q (a0 :: r) kk hk0 (by omega) (by omega) (by omega)
  have e : (a0 :: r).drop kk.toNat ++ (a0 :: r).take kk.toNat = (A.drop kk.toNat ++ A.take kk.toNat).map crP := by rw [hA, List.map_append, List.map_drop, List.map_take]
  rw [e] at this; exact this
 ·have hl : A.length = (a0 :: r).length := by rw [hA, List.length_map]
  exact turned_q _ (by simp only [List.length_append, List.length_drop, List.length_take]; omega) (by simp only [List.length_append, List.length_drop, List.length_take]; omega)
 ·have hl : A.length = (a0 :: r).length := by rw [hA, List.length_map]
  have := parity_q (k := 24) (z := p) (ps := (A.drop kk.toNat ++ A.take kk.toNat).reverse.map crP) (fun q hq => by
   obtain ⟨y, hy, rfl⟩ := List.mem_map.1 hq
   have hm : crP y ∈ a0 :: r := by
    rw [hA]
    refine List.mem_map_of_mem ?_
    rw [List.mem_reverse, List.mem_append] at hy
    rcases hy with hy | hy
    ·exact List.mem_of_mem_drop hy
    ·exact List.mem_of_mem_take hy
   exact ia _ hm) (by simp only [List.length_map, List.length_reverse, List.length_append, List.length_drop, List.length_take]; omega) (by decide) ip
  rw [(q3 kk.toNat).1, (q3 kk.toNat).2] at this
  exact this
theorem ringParities_con (a : List Pt) (ha : a.length <= maxLen) (b : List Pt) (hb : b.length <= maxLen) (p : Pt) (k : Int) (k0 : 0 <= k) (k1 : k < 256) : Con Tryz.prog 12 [.ro cP a, .ro cP b, .v p.v, .v (.int .u8 k)] (.v (.bool true)) := by
 have kg1 := great24_con a ha
 have kg2 := great24_con b hb
 have kg3 := great1_con p
 obtain ⟨n, hn⟩ : ∃ n : Int, n = a.length := ⟨_, rfl⟩
 obtain ⟨m, hm⟩ : ∃ n : Int, n = b.length := ⟨_, rfl⟩
 have hln : Env.std.len Pt a = n := by rw [s_len, hn]
 have hlm : Env.std.len Pt b = m := by rw [s_len, hm]
 have tka : Env.std.tk Pt a (Env.std.len Pt a) = a := by rw [s_tk, s_len]; exact List.take_of_length_le (by omega)
 have tkb : Env.std.tk Pt b (Env.std.len Pt b) = b := by rw [s_tk, s_len]; exact List.take_of_length_le (by omega)
 obtain ⟨ga, ega⟩ : ∃ r, r = bigG a := ⟨_, rfl⟩
 obtain ⟨gb, egb⟩ : ∃ r, r = bigG b := ⟨_, rfl⟩
 obtain ⟨gp, egp⟩ : ∃ r, r = bigC p := ⟨_, rfl⟩
 obtain ⟨kk, ekk⟩ : ∃ r : Int, r = k.tmod n := ⟨_, rfl⟩
 rw [<- ega] at kg1
 rw [<- egb] at kg2
 rw [<- egp] at kg3
 have hall : ¬ ga = true -> ¬ gb = true -> ¬ 14 < n -> ¬ 14 < m -> ¬ n = 0 -> ¬ gp = true -> ∃ a0 x y z e f g, RpF a b p kk a0 x y z e f g := fun c1 c2 c3 c4 c5 c6 =>
  rpF_ex (by rw [<- ega]; simpa using c1) (by rw [<- egb]; simpa using c2) (by rw [<- egp]; simpa using c6) (by omega) (by omega) (by omega)
   (by rw [ekk]; exact Int.tmod_nonneg _ k0) (by rw [ekk, Int.tmod_eq_emod_of_nonneg k0, <- hn]; exact Int.emod_lt_of_pos _ (by omega))
 clear ega egb egp ha hb
 refine Con.of ttOk mixed Tryz.func12 { ord := [(6, [0, 1, 4, 2, 3, 5, 6, 7, 8, 9, 10]), (9, [0, 1, 2, 3, 4, 5, 8, 6, 7, 9, 10, 11, 12, 13, 14])] } cat_ok 4 (by kernel_rfl) (fun P' E hP hE => ?_)
 cbv
 refine CallTo.w hP hE kg1 ⟨(by subst hE; exact Sm.of (c := cP) tka), trivial⟩ ?_
 cbv
 refine fork.mk ?_ ?_
 ·intro g
  cbv
  refine awake10_c hP hE ?_
  cbv
 intro g
 have c1 : ¬ ga = true := by simpa using g
 clear g
 cbv
 refine CallTo.w hP hE kg2 ⟨(by subst hE; exact Sm.of (c := cP) tkb), trivial⟩ ?_
 cbv
 refine fork.mk ?_ ?_
 ·intro g
  cbv
  refine awake10_c hP hE ?_
  cbv
 intro g
 have c2 : ¬ gb = true := by simpa using g
 clear g
 cbv
 refine fork.mk ?_ ?_
 ·intro g
  cbv
  refine awake10_c hP hE ?_
  cbv
 intro g
 have c3 : ¬ 14 < n := by subst hE; rw [<- hln]; simpa [Env.std] using g
 clear g
 cbv
 refine fork.mk ?_ ?_
 ·intro g
  cbv
  refine awake10_c hP hE ?_
  cbv
 intro g
 have c4 : ¬ 14 < m := by subst hE; rw [<- hlm]; simpa [Env.std] using g
 clear g
 cbv
 refine fork.mk ?_ ?_
 ·intro g
  cbv
  refine awake10_c hP hE ?_
  cbv
 intro g
 have c5 : ¬ n = 0 := by subst hE; rw [<- hln]; simpa [Env.std] using g
 clear g
 cbv
 refine CallTo.w hP hE kg3 ⟨rfl, trivial⟩ ?_
 cbv
 refine fork.mk ?_ ?_
 ·intro g
  cbv
  refine awake10_c hP hE ?_
  cbv
 intro g
 have c6 : ¬ gp = true := by simpa using g
 clear g
 cbv
 refine Exists.elim (hall c1 c2 c3 c4 c5 c6) ?_
 intro a0 h
 refine Exists.elim h ?_
 intro x h
 refine Exists.elim h ?_
 intro y h
 refine Exists.elim h ?_
 intro z h
 refine Exists.elim h ?_
 intro e h
 refine Exists.elim h ?_
 intro f h
 refine Exists.elim h ?_
 intro g hf
 have hget := hf.hget
 have kA := hf.kA
 have kB := hf.kB
 have kZ := hf.kZ
 have hbad := hf.bad
 have hgood := hf.good
 have hm : m = (b.length : Int) := hm
 have hn : n = (a.length : Int) := hn
 have in0 : 0 <= (0 : Int) /\ 0 < (a.length : Int) := ⟨by omega, by omega⟩
 have hc1 : CatF (Int.ofNat 1) (Env.std.len Pt b) := CatF.of (by decide) (by rw [hlm]; omega) (by rw [hlm]; show 1 <= 1 + m; omega) (by rw [hlm]; show 1 + m <= _; omega)
 have hr1 : CatR (Int.ofNat 1) (Env.std.len Pt b) [Env.std.get Pt a 0 zQ] b (a0 :: b) := by
  have h9 : CatR (Int.ofNat 1) (Env.std.len Pt b) [a0] b (a0 :: b) := CatR.of (by rw [List.length_singleton]; omega)
  rw [<- hget] at h9 ⊢; exact h9
 have hL1 : Env.std.ad (Env.std.ad 0 (Env.std.len Pt [Env.std.get Pt a 0 zQ])) (Env.std.len Pt b) = m + 1 := by rw [hr1.ln, List.length_cons]; omega
 have hB := (congrArg (fun z => Env.std.tk Pt z (Env.std.ad (Env.std.ad 0 (Env.std.len Pt [Env.std.get Pt a 0 zQ])) (Env.std.len Pt b))) hr1.row).trans hr1.tk
 have hc2 : CatF (Env.std.len Pt a) (Env.std.ad (Env.std.ad 0 (Env.std.len Pt [Env.std.get Pt a 0 zQ])) (Env.std.len Pt b)) := CatF.of (by rw [hln]; omega) (by rw [hL1]; omega) (by rw [hL1, hln]; omega) (by rw [hL1, hln]; omega)
 have hr2 : CatR (Env.std.len Pt a) (Env.std.ad (Env.std.ad 0 (Env.std.len Pt [Env.std.get Pt a 0 zQ])) (Env.std.len Pt b)) a (a0 :: b) (a ++ a0 :: b) := CatR.of (by rw [List.length_cons]; omega)
 have hZ := (congrArg (fun z => Env.std.tk Pt z (Env.std.ad (Env.std.ad 0 (Env.std.len Pt a)) (Env.std.len Pt (a0 :: b)))) hr2.row).trans hr2.tk
 have hk0 : Env.std.ib .rem .i64 (Env.std.cv .i64 k) (Env.std.len Pt a) = kk := by rw [hln, ekk, s_cv, w64 (by omega) (by omega), s_rem]
 have hnz : Env.std.nz .rem (Env.std.len Pt a) := by show (a.length : Int) ≠ 0; omega
 have f12 := hc1.f2
 have f13 := hc1.f3
 have r13 := hc1.r3
 have r14 := hc1.r4
 have t11 := hr1.t1
 have t12 := hr1.t2
 have f21 := hc2.f1
 have f22 := hc2.f2
 have f23 := hc2.f3
 have r23 := hc2.r3
 have r24 := hc2.r4
 have t21 := hr2.t1
 have t22 := hr2.t2
 clear hf h hall hc1 hr1 hc2 hr2
 refine Need.mk (by subst hE; exact in0) ?_
 cbv
 refine forkNo (by subst hE; exact f12) ?_
 cbv
 refine forkNo (by subst hE; exact f12) ?_
 cbv
 refine forkYes (by subst hE; exact f13) ?_
 cbv
 refine Need.mk (by subst hE; and_intros <;> exact Int.le_refl _) ?_
 cbv
 refine Need.mk (by subst hE; exact r13) ?_
 cbv
 refine Need.mk (by subst hE; exact r14) ?_
 cbv
 refine Need.mk (by subst hE; exact t11) ?_
 cbv
 refine ⟨b, (by subst hE; exact Sm.of (c := cP) tkb.symm), ?_⟩
 cbv
 refine Need.mk (by subst hE; exact t12) ?_
 cbv
 refine CallTo.w hP hE kA ⟨(by subst hE; exact Sm.of (c := cP) tka), rfl, trivial⟩ ?_
 cbv
 refine CallTo.w hP hE kB ⟨(by subst hE; exact Sm.of (c := cP) hB), rfl, trivial⟩ ?_
 cbv
 refine forkNo (by subst hE; exact f21) ?_
 cbv
 refine forkNo (by subst hE; exact f22) ?_
 cbv
 refine forkNo (by subst hE; exact f22) ?_
 cbv
 refine forkYes (by subst hE; exact f23) ?_
 cbv
 refine Need.mk (by subst hE; and_intros <;> exact Int.le_refl _) ?_
 cbv
 refine Need.mk (by subst hE; exact r23) ?_
 cbv
 refine Need.mk (by subst hE; exact r24) ?_
 cbv
 refine ⟨a, (by subst hE; exact Sm.of (c := cP) tka.symm), ?_⟩
 cbv
 refine Need.mk (by subst hE; exact t21) ?_
 cbv
 refine ⟨a0 :: b, (by subst hE; exact Sm.of (c := cP) hB.symm), ?_⟩
 cbv
 refine Need.mk (by subst hE; exact t22) ?_
 cbv
 refine CallTo.w hP hE kZ ⟨(by subst hE; exact Sm.of (c := cP) hZ), rfl, trivial⟩ ?_
 cbv
 clear f12 f13 r13 r14 t11 t12 f21 f22 f23 r23 r24 t21 t22
 refine fork.mk ?_ ?_
 ·intro q
  have d1 : e ≠ 0 := by subst hE; simpa [Env.std] using q
  have hg1 := (hbad (.inl d1)).1
  have hz0 := (hbad (.inl d1)).2
  cbv
  refine forkYes (by subst hE; simp [Env.std, hg1]) ?_
  cbv
  refine forkYes (by subst hE; simp [Env.std, hz0]) ?_
  cbv
  refine awake10_c hP hE ?_
  cbv
 intro q
 have d1 : e = 0 := by subst hE; simpa [Env.std] using q
 clear q
 cbv
 refine fork.mk ?_ ?_
 ·intro q
  have d2 : f ≠ 0 := by subst hE; simpa [Env.std] using q
  have hg1 := (hbad (.inr d2)).1
  have hz0 := (hbad (.inr d2)).2
  cbv
  refine forkYes (by subst hE; simp [Env.std, hg1]) ?_
  cbv
  refine forkYes (by subst hE; simp [Env.std, hz0]) ?_
  cbv
  refine awake10_c hP hE ?_
  cbv
 intro q
 have d2 : f = 0 := by subst hE; simpa [Env.std] using q
 clear q
 have hg0 := (hgood d1 d2).1
 have hz := (hgood d1 d2).2.1
 cbv
 refine Exists.elim (hgood d1 d2).2.2 ?_
 intro rs h
 refine Exists.elim h ?_
 intro ts h
 have kf := h.1
 have kt := h.2.1
 have ku := h.2.2
 clear h hgood hbad
 refine Need.mk (by subst hE; exact hnz) ?_
 cbv
 refine CallTo.con hP hE kf ⟨(by subst hE; exact Sm.of (c := cP) tka), (by subst hE; exact congrArg (fun x => Value.int .i64 x) hk0), trivial⟩ ?_
 cbv
 refine CallTo.con hP hE kt ⟨(by subst hE; exact Sm.of (c := cP) (all_tk' rs)), trivial⟩ ?_
 cbv
 refine CallTo.w hP hE ku ⟨(by subst hE; exact Sm.of (c := cP) (all_tk' ts)), rfl, trivial⟩ ?_
 cbv
 refine forkYes (by subst hE; simp [Env.std, hg0]) ?_
 cbv
 refine forkYes (by subst hE; rfl) ?_
 cbv
 refine forkYes (by subst hE; rw [hz]; cases x <;> cases y <;> rfl) ?_
 cbv
 refine forkYes (by subst hE; cases x <;> rfl) ?_
 cbv
 refine awake10_c hP hE ?_
 cbv
end Go.Proofs.YtfdealobplcboaaGreat.Sx
