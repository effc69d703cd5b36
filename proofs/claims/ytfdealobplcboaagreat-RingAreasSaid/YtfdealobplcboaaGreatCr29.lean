/- Part 29 of what the statement needs: an executor of Go texts, arithmetic, and contracts of the functions that are called. -/
import Derived.Test.YtfdealobplcboaaGreatCr27
import Derived.Test.YtfdealobplcboaaGreatCr28
set_option linter.unusedVariables false
set_option linter.unusedSimpArgs false
set_option maxRecDepth 100000
set_option maxHeartbeats 16000000
namespace Go.Proofs.YtfdealobplcboaaGreat.Sx
theorem canL_map (l : List Pq) : canL (l.map crP) = true := by
 unfold canL
 rw [List.all_eq_true]
 intro x hx
 obtain ⟨y, _, rfl⟩ := List.mem_map.1 hx
 rw [canP_iff]
 show _ = crP ⟨(cr y.x).q, (cr y.y).q⟩
 rw [cr_q, cr_q]
theorem chkA_map (l : List Pq) : chkA (l.map crP) = if l.length < 3 \/ 64 < l.length then 4 else if 0 <= flatI l then 12 else if crossB l = true then 13 else if cmpQ (areaQ l) 0 <= 0 then 8 else if ((firstI l : Nat) : Int) = 0 then 0 else 8 := by
 unfold chkA chkI
 rw [List.length_map, canL_map, if_pos rfl, map_q]
def J2 (a b : Int) : Pq := ⟨(a : Rat), (b : Rat)⟩
def LA : List Pq := [J2 2 0, J2 2 2, J2 0 2, J2 0 0, J2 1 0]
def LB : List Pq := [J2 0 0, J2 2 0, J2 2 2, J2 0 2]
theorem la1 : canQ LA = LB := by kernel_rfl
theorem la2 : canE true LA = 0 := by kernel_rfl
theorem lb1 : areaQ LB = ((4 : Int) : Rat) := by kernel_rfl
theorem lb2 : centQ LB = J2 1 1 := by kernel_rfl
theorem lb3 : sideQ LB (J2 1 0) = 0 := by kernel_rfl
theorem lb4 : sideQ LB (J2 3 1) = -1 := by kernel_rfl
theorem lb5 : flatI LB = -1 := by kernel_rfl
theorem lb6 : crossB LB = false := by kernel_rfl
theorem lb7 : cmpQ ((4 : Int) : Rat) 0 = 1 := by kernel_rfl
theorem lb8 : firstI LB = 0 := by kernel_rfl
theorem lb9 : chkA (LB.map crP) = 0 := by
 rw [chkA_map, lb5, lb6, lb1, lb7, lb8, if_neg (by decide), if_neg (by decide), if_neg (by decide), if_neg (by decide)]; rfl
abbrev in64' (n : Int) : Prop := -9223372036854775808 <= n /\ n < 9223372036854775808
theorem J2.bd {a b : Int} (ha : in64' a) (hb : in64' b) : BdP 8 (J2 a b) := ⟨bd_int ha, bd_int hb⟩
theorem J2.is {a b : Int} (ha : in64' a) (hb : in64' b) : IsP 8 (crP (J2 a b)) (crP (J2 a b)).q := by
 have h := (J2.bd ha hb).is
 have e : (crP (J2 a b)).q = J2 a b := by show (⟨(cr (J2 a b).x).q, (cr (J2 a b).y).q⟩ : Pq) = _; rw [cr_q, cr_q]
 rw [e]; exact h
theorem q_crP (p : Pq) : (crP p).q = p := by show (⟨(cr p.x).q, (cr p.y).q⟩ : Pq) = _; rw [cr_q, cr_q]
theorem awake10_con : Con Tryz.prog 44 [] (.v (.bool true)) := by
 have isA : ∀ p ∈ LA.map crP, IsP 8 p p.q := by
  intro p hp
  simp only [LA, List.map_cons, List.map_nil, List.mem_cons, List.not_mem_nil, or_false] at hp
  rcases hp with rfl | rfl | rfl | rfl | rfl <;> exact J2.is (by decide) (by decide)
 have isB : ∀ p ∈ LB.map crP, IsP 8 p p.q := by
  intro p hp
  simp only [LB, List.map_cons, List.map_nil, List.mem_cons, List.not_mem_nil, or_false] at hp
  rcases hp with rfl | rfl | rfl | rfl <;> exact J2.is (by decide) (by decide)
 have kcn := canon_ok isA (by decide) (by decide) (by decide) (by decide) (by rw [canL_map, map_q]; exact la2)
 rw [map_q, la1] at kcn
 have kce := centroid_q isB (by decide) (by decide) (by decide)
 have ki1 := inside_q isB (by decide) (by decide) (by decide) (z := crP (J2 1 0)) (J2.is (by decide) (by decide))
 have ki2 := inside_q isB (by decide) (by decide) (by decide) (z := crP (J2 3 1)) (J2.is (by decide) (by decide))
 have c1 : canL [crP (J2 1 0)] = true := canL_map [J2 1 0]
 have c2 : canL [crP (J2 3 1)] = true := canL_map [J2 3 1]
 rw [cenP, cenE, lb9, if_pos rfl, if_pos rfl, map_q, lb2] at kce
 rw [insS, insE, lb9, if_pos rfl, if_pos rfl, c1, if_pos rfl, if_pos rfl, map_q, q_crP, lb3] at ki1
 rw [insS, insE, lb9, if_pos rfl, if_pos rfl, c2, if_pos rfl, if_pos rfl, map_q, q_crP, lb4] at ki2
 have ksm := same_q (LB.map crP) (LB.map crP) (by decide)
 rw [eqL_iff.2 rfl] at ksm
 have kar := area_q isB (by decide) (by decide) (by decide)
 rw [map_q, lb1] at kar
 have k4 := ofQ_q 4 (by decide) (by decide)
 have v20 := vof_q 2 0 (by decide)
 have v22 := vof_q 2 2 (by decide)
 have v02 := vof_q 0 2 (by decide)
 have v00 := vof_q 0 0 (by decide)
 have v10 := vof_q 1 0 (by decide)
 have v31 := vof_q 3 1 (by decide)
 have v11 := vof_q 1 1 (by decide)
 have v20 : Con Tryz.prog 77 _ (.v (crP (J2 2 0)).v) := v20
 have v22 : Con Tryz.prog 77 _ (.v (crP (J2 2 2)).v) := v22
 have v02 : Con Tryz.prog 77 _ (.v (crP (J2 0 2)).v) := v02
 have v00 : Con Tryz.prog 77 _ (.v (crP (J2 0 0)).v) := v00
 have v10 : Con Tryz.prog 77 _ (.v (crP (J2 1 0)).v) := v10
 have v31 : Con Tryz.prog 77 _ (.v (crP (J2 3 1)).v) := v31
 have v11 : Con Tryz.prog 77 _ (.v (crP (J2 1 1)).v) := v11
 have eA : LA.map crP = [crP (J2 2 0), crP (J2 2 2), crP (J2 0 2), crP (J2 0 0), crP (J2 1 0)] := rfl
 have eB : LB.map crP = [crP (J2 0 0), crP (J2 2 0), crP (J2 2 2), crP (J2 0 2)] := rfl
 rw [eA] at kcn
 have ksm : Con Tryz.prog 50 [.ro cP (LB.map crP), .ro cP [crP (J2 0 0), crP (J2 2 0), crP (J2 2 2), crP (J2 0 2)]] _ := ksm
 obtain ⟨rs, hrs⟩ : ∃ r, r = LB.map crP := ⟨_, rfl⟩
 obtain ⟨p20, e20⟩ : ∃ p, p = crP (J2 2 0) := ⟨_, rfl⟩
 obtain ⟨p22, e22⟩ : ∃ p, p = crP (J2 2 2) := ⟨_, rfl⟩
 obtain ⟨p02, e02⟩ : ∃ p, p = crP (J2 0 2) := ⟨_, rfl⟩
 obtain ⟨p00, e00⟩ : ∃ p, p = crP (J2 0 0) := ⟨_, rfl⟩
 obtain ⟨p10, e10⟩ : ∃ p, p = crP (J2 1 0) := ⟨_, rfl⟩
 obtain ⟨p31, e31⟩ : ∃ p, p = crP (J2 3 1) := ⟨_, rfl⟩
 obtain ⟨p11, e11⟩ : ∃ p, p = crP (J2 1 1) := ⟨_, rfl⟩
 obtain ⟨x4, e4⟩ : ∃ p, p = cr ((4 : Int) : Rat) := ⟨_, rfl⟩
 rw [<- e20] at v20 kcn ksm
 rw [<- e22] at v22 kcn ksm
 rw [<- e02] at v02 kcn ksm
 rw [<- e00] at v00 kcn ksm
 rw [<- e10] at v10 kcn ki1
 rw [<- e31] at v31 ki2
 rw [<- e11] at v11 kce
 rw [<- e4] at k4 kar
 rw [<- hrs] at kcn kce ki1 ki2 ksm kar
 have tkr : Env.std.tk Pt rs (Env.std.len Pt rs) = rs := by rw [s_tk, s_len]; exact List.take_of_length_le (by omega)
 clear isA isB c1 c2 eA eB e20 e22 e02 e00 e10 e31 e11 e4 hrs
 refine Con.of ttOk mixed Tryz.func44 { ord := [(5, [0, 1, 2, 3, 4, 5, 6, 7, 8, 9, 10, 11, 12, 13, 14, 15, 16, 17, 18, 19, 20, 21, 22, 23, 24, 25, 26, 27, 28, 29, 30, 31, 32, 33, 34, 35, 36, 37, 38, 39, 40, 41, 42])] } .nil 0 (by kernel_rfl) (fun P' E hP hE => ?_)
 cbv
 refine CallTo.w hP hE v20 ⟨rfl, rfl, trivial⟩ ?_
 cbv
 refine CallTo.w hP hE v22 ⟨rfl, rfl, trivial⟩ ?_
 cbv
 refine CallTo.w hP hE v02 ⟨rfl, rfl, trivial⟩ ?_
 cbv
 refine CallTo.w hP hE v00 ⟨rfl, rfl, trivial⟩ ?_
 cbv
 refine CallTo.w hP hE v10 ⟨rfl, rfl, trivial⟩ ?_
 cbv
 refine CallTo.con hP hE kcn ⟨⟨cP_ok, rfl, rfl, by decide⟩, trivial⟩ ?_
 cbv
 refine CallTo.w hP hE kce ⟨(by subst hE; exact Sm.of (c := cP) tkr), trivial⟩ ?_
 cbv
 refine CallTo.w hP hE v10 ⟨rfl, rfl, trivial⟩ ?_
 cbv
 refine CallTo.w hP hE ki1 ⟨(by subst hE; exact Sm.of (c := cP) tkr), rfl, trivial⟩ ?_
 cbv
 refine CallTo.w hP hE v31 ⟨rfl, rfl, trivial⟩ ?_
 cbv
 refine CallTo.w hP hE ki2 ⟨(by subst hE; exact Sm.of (c := cP) tkr), rfl, trivial⟩ ?_
 cbv
 refine forkYes (by subst hE; rfl) ?_
 cbv
 refine forkYes (by subst hE; rfl) ?_
 cbv
 refine forkYes (by subst hE; rfl) ?_
 cbv
 refine forkYes (by subst hE; rfl) ?_
 cbv
 refine CallTo.w hP hE v00 ⟨rfl, rfl, trivial⟩ ?_
 cbv
 refine CallTo.w hP hE v20 ⟨rfl, rfl, trivial⟩ ?_
 cbv
 refine CallTo.w hP hE v22 ⟨rfl, rfl, trivial⟩ ?_
 cbv
 refine CallTo.w hP hE v02 ⟨rfl, rfl, trivial⟩ ?_
 cbv
 refine CallTo.w hP hE ksm ⟨(by subst hE; exact Sm.of (c := cP) tkr), ⟨cP_ok, rfl, rfl, by decide⟩, trivial⟩ ?_
 cbv
 refine forkYes (by subst hE; rfl) ?_
 cbv
 refine CallTo.w hP hE kar ⟨(by subst hE; exact Sm.of (c := cP) tkr), trivial⟩ ?_
 cbv
 refine CallTo.w hP hE k4 ⟨rfl, trivial⟩ ?_
 cbv
 refine forkYes (by subst hE; exact (eqc_R x4 x4).2 rfl) ?_
 cbv
 refine CallTo.w hP hE v11 ⟨rfl, rfl, trivial⟩ ?_
 cbv
 refine forkYes (by subst hE; exact (eqc_P p11 p11).2 rfl) ?_
 cbv
 refine forkYes (by subst hE; rfl) ?_
 cbv
 subst hE
 rfl
theorem awake10_c {P' : Program} {E : Env} (hP : P' = Tryz.prog) (hE : E = Env.std) {hh : List Blk} {K : AV -> List Blk -> Prop} (hk : K (.v (.bool true)) hh) : CallTo P' hh 44 [] K :=
 CallTo.w hP hE awake10_con trivial hk
end Go.Proofs.YtfdealobplcboaaGreat.Sx
