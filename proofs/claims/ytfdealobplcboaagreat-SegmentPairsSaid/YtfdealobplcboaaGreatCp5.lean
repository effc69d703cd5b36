/- Part 5 of what the statement needs: an executor of Go texts, arithmetic, and contracts of the functions that are called. -/
import Derived.Test.YtfdealobplcboaaGreatCp4
/- The reference's functions on segments. -/
set_option linter.unusedVariables false
set_option linter.unusedSimpArgs false
set_option maxRecDepth 100000
set_option maxHeartbeats 8000000
namespace Go.Proofs.YtfdealobplcboaaGreat.Sx

theorem BdS.join {k : Nat} {s t : Sq} (hs : BdS k s) (ht : BdS k t) (hk : 1 ≤ k) : BdS k (joinS s t) := by
  unfold joinS; split
  · exact ⟨hs.ord.a.ls ht.ord.a, hs.ord.b.gr ht.ord.b⟩
  · exact BdS.zero hk
theorem ycan_q {a : Pt} {A : Pq} {k : Nat} (ha : IsP k a A) (h : k + 1 ≤ 134217728) : Con Tryz.prog 113 [.v a.v] (.v ((crP (A)).v)) := by
  obtain ⟨⟨an0, au0, ad0⟩, ⟨an1, au1, ad1⟩⟩ := a
  have hax : Is k ⟨an0, au0, ad0⟩ A.x := ha.x
  have hay : Is k ⟨an1, au1, ad1⟩ A.y := ha.y
  obtain ⟨r0, e0⟩ : ∃ r, r = crP (A) := ⟨_, rfl⟩
  rw [← e0]
  have hz := IsP.zero
  refine Con.of ttOk mixed Tryz.func113 {} .nil 0 (by kernel_rfl) (fun P' E hP hE => ?_)
  cbv
  refine yadd_c hP hE (by assumption) (by assumption) (by omega) ?_
  intro c1 ec1 hc1 hc1x hc1y
  cbv
  rw [Pq.add_zero] at ec1
  rw [e0, ec1]
theorem ycan_c {P' : Program} {E : Env} (hP : P' = Tryz.prog) (hE : E = Env.std) {hh : List Blk} {K : AV → List Blk → Prop} {an0 an1 : Bool} {au0 ad0 au1 ad1 : ByteArray} {A : Pq} {k : Nat} (ha : IsP k ⟨⟨an0, au0, ad0⟩, ⟨an1, au1, ad1⟩⟩ A) (h : k + 1 ≤ 134217728) (hk : ∀ r0 : Pt, r0 = crP (A) → IsP (k) r0 (A) → Is (k) r0.x (A).x → Is (k) r0.y (A).y → K (.v (r0.v)) hh) : CallTo P' hh 113 [.v (.agg #[.bool an0, .string au0, .string ad0, .bool an1, .string au1, .string ad1])] K := by
  refine CallTo.con hP hE (ycan_q ha h) ⟨rfl, trivial⟩ ?_
  have := hk _ rfl (ha.b).is (ha.b).is.x (ha.b).is.y
  simp only [outV, outW, List.append_nil]
  exact this
theorem ycan_p {a : Pt} {A : Pq} {k : Nat} (ha : IsP k a A) (h : k + 1 ≤ 134217728) : ∃ (r0 : Pt), r0 = crP (A) ∧ IsP (k) r0 (A) ∧ Con Tryz.prog 113 [.v a.v] (.v (r0.v)) := ⟨_, rfl, (ha.b).is, ycan_q ha h⟩
theorem ychk_q {a : Sg} {S : Sq} {k : Nat} (ha : IsS k a S) (h : 2 * k ≤ 134217728) : Con Tryz.prog 35 [.v a.v] (.v (.int .i64 (chkQ S))) := by
  obtain ⟨⟨⟨an0, au0, ad0⟩, ⟨an1, au1, ad1⟩⟩, ⟨⟨an2, au2, ad2⟩, ⟨an3, au3, ad3⟩⟩⟩ := a
  have haa : IsP k ⟨⟨an0, au0, ad0⟩, ⟨an1, au1, ad1⟩⟩ S.a := ha.a
  have hab : IsP k ⟨⟨an2, au2, ad2⟩, ⟨an3, au3, ad3⟩⟩ S.b := ha.b
  have haax : Is k ⟨an0, au0, ad0⟩ S.a.x := ha.a.x
  have haay : Is k ⟨an1, au1, ad1⟩ S.a.y := ha.a.y
  have habx : Is k ⟨an2, au2, ad2⟩ S.b.x := ha.b.x
  have haby : Is k ⟨an3, au3, ad3⟩ S.b.y := ha.b.y
  obtain ⟨r0, e0⟩ : ∃ r, r = chkQ S := ⟨_, rfl⟩
  rw [← e0]
  refine Con.of ttOk mixed Tryz.func35 {} .nil 0 (by kernel_rfl) (fun P' E hP hE => ?_)
  cbv
  refine ycmp_c hP hE (by assumption) (by assumption) (by omega) ?_
  intro m1 em1
  cbv
  refine fork.mk ?_ ?_
  · intro k1
    cbv
    subst hE
    simp [Env.std] at k1
    simp [e0, chkQ, ← em1, k1]
  · intro k1
    cbv
    subst hE
    simp [Env.std] at k1
    simp [e0, chkQ, ← em1, k1]
theorem ychk_c {P' : Program} {E : Env} (hP : P' = Tryz.prog) (hE : E = Env.std) {hh : List Blk} {K : AV → List Blk → Prop} {an0 an1 an2 an3 : Bool} {au0 ad0 au1 ad1 au2 ad2 au3 ad3 : ByteArray} {S : Sq} {k : Nat} (ha : IsS k ⟨⟨⟨an0, au0, ad0⟩, ⟨an1, au1, ad1⟩⟩, ⟨⟨an2, au2, ad2⟩, ⟨an3, au3, ad3⟩⟩⟩ S) (h : 2 * k ≤ 134217728) (hk : ∀ r0 : Int, r0 = chkQ S → K (.v (.int .i64 r0)) hh) : CallTo P' hh 35 [.v (.agg #[.bool an0, .string au0, .string ad0, .bool an1, .string au1, .string ad1, .bool an2, .string au2, .string ad2, .bool an3, .string au3, .string ad3])] K := by
  refine CallTo.con hP hE (ychk_q ha h) ⟨rfl, trivial⟩ ?_
  have := hk _ rfl
  simp only [outV, outW, List.append_nil]
  exact this
theorem ychk_p {a : Sg} {S : Sq} {k : Nat} (ha : IsS k a S) (h : 2 * k ≤ 134217728) : ∃ (r0 : Int), r0 = chkQ S ∧ Con Tryz.prog 35 [.v a.v] (.v (.int .i64 r0)) := ⟨_, rfl, ychk_q ha h⟩
theorem yord_q {a : Sg} {S : Sq} {k : Nat} (ha : IsS k a S) (h : 2 * k + 1 ≤ 134217728) : Con Tryz.prog 37 [.v a.v] (.v ((crS (ordS S)).v)) := by
  obtain ⟨⟨⟨an0, au0, ad0⟩, ⟨an1, au1, ad1⟩⟩, ⟨⟨an2, au2, ad2⟩, ⟨an3, au3, ad3⟩⟩⟩ := a
  have haa : IsP k ⟨⟨an0, au0, ad0⟩, ⟨an1, au1, ad1⟩⟩ S.a := ha.a
  have hab : IsP k ⟨⟨an2, au2, ad2⟩, ⟨an3, au3, ad3⟩⟩ S.b := ha.b
  have haax : Is k ⟨an0, au0, ad0⟩ S.a.x := ha.a.x
  have haay : Is k ⟨an1, au1, ad1⟩ S.a.y := ha.a.y
  have habx : Is k ⟨an2, au2, ad2⟩ S.b.x := ha.b.x
  have haby : Is k ⟨an3, au3, ad3⟩ S.b.y := ha.b.y
  obtain ⟨r0, e0⟩ : ∃ r, r = crS (ordS S) := ⟨_, rfl⟩
  rw [← e0]
  refine Con.of ttOk mixed Tryz.func37 { ord := [(2, [0, 1, 3, 4, 2, 5, 6, 7]), (3, [0, 1, 3, 4, 2, 5, 6, 7])] } .nil 0 (by kernel_rfl) (fun P' E hP hE => ?_)
  cbv
  refine ycmp_c hP hE (by assumption) (by assumption) (by omega) ?_
  intro m1 em1
  cbv
  refine fork.mk ?_ ?_
  · intro g1
    cbv
    refine ycan_c hP hE (by assumption) (by omega) ?_
    intro c1 ec1 hc1 hc1x hc1y
    cbv
    refine ycan_c hP hE (by assumption) (by omega) ?_
    intro c2 ec2 hc2 hc2x hc2y
    cbv
    subst hE
    simp [Env.std] at g1
    rw [e0, ordS, if_pos (by rw [← em1]; exact g1), ec1, ec2]; rfl
  · intro g1
    cbv
    refine ycan_c hP hE (by assumption) (by omega) ?_
    intro c1 ec1 hc1 hc1x hc1y
    cbv
    refine ycan_c hP hE (by assumption) (by omega) ?_
    intro c2 ec2 hc2 hc2x hc2y
    cbv
    subst hE
    simp [Env.std] at g1
    rw [e0, ordS, if_neg (by rw [← em1]; omega), ec1, ec2]; rfl
theorem yord_c {P' : Program} {E : Env} (hP : P' = Tryz.prog) (hE : E = Env.std) {hh : List Blk} {K : AV → List Blk → Prop} {an0 an1 an2 an3 : Bool} {au0 ad0 au1 ad1 au2 ad2 au3 ad3 : ByteArray} {S : Sq} {k : Nat} (ha : IsS k ⟨⟨⟨an0, au0, ad0⟩, ⟨an1, au1, ad1⟩⟩, ⟨⟨an2, au2, ad2⟩, ⟨an3, au3, ad3⟩⟩⟩ S) (h : 2 * k + 1 ≤ 134217728) (hk : ∀ r0 : Sg, r0 = crS (ordS S) → IsS (k) r0 (ordS S) → r0.a = crP (ordS S).a → r0.b = crP (ordS S).b → IsP (k) r0.a (ordS S).a → IsP (k) r0.b (ordS S).b → Is (k) r0.a.x (ordS S).a.x → Is (k) r0.a.y (ordS S).a.y → Is (k) r0.b.x (ordS S).b.x → Is (k) r0.b.y (ordS S).b.y → K (.v (r0.v)) hh) : CallTo P' hh 37 [.v (.agg #[.bool an0, .string au0, .string ad0, .bool an1, .string au1, .string ad1, .bool an2, .string au2, .string ad2, .bool an3, .string au3, .string ad3])] K := by
  refine CallTo.con hP hE (yord_q ha h) ⟨rfl, trivial⟩ ?_
  have := hk _ rfl (ha.bd.ord).is rfl rfl (ha.bd.ord).is.a (ha.bd.ord).is.b (ha.bd.ord).is.a.x (ha.bd.ord).is.a.y (ha.bd.ord).is.b.x (ha.bd.ord).is.b.y
  simp only [outV, outW, List.append_nil]
  exact this
theorem yord_p {a : Sg} {S : Sq} {k : Nat} (ha : IsS k a S) (h : 2 * k + 1 ≤ 134217728) : ∃ (r0 : Sg), r0 = crS (ordS S) ∧ IsS (k) r0 (ordS S) ∧ Con Tryz.prog 37 [.v a.v] (.v (r0.v)) := ⟨_, rfl, (ha.bd.ord).is, yord_q ha h⟩
theorem yin_q {a : Sg} {S : Sq} {k : Nat} {b : Pt} {A : Pq} {l : Nat} (ha : IsS k a S) (hb : IsP l b A) (h : k + l ≤ 134217728) : Con Tryz.prog 110 [.v a.v, .v b.v] (.v (.bool (inQ S A))) := by
  obtain ⟨⟨⟨an0, au0, ad0⟩, ⟨an1, au1, ad1⟩⟩, ⟨⟨an2, au2, ad2⟩, ⟨an3, au3, ad3⟩⟩⟩ := a
  have haa : IsP k ⟨⟨an0, au0, ad0⟩, ⟨an1, au1, ad1⟩⟩ S.a := ha.a
  have hab : IsP k ⟨⟨an2, au2, ad2⟩, ⟨an3, au3, ad3⟩⟩ S.b := ha.b
  have haax : Is k ⟨an0, au0, ad0⟩ S.a.x := ha.a.x
  have haay : Is k ⟨an1, au1, ad1⟩ S.a.y := ha.a.y
  have habx : Is k ⟨an2, au2, ad2⟩ S.b.x := ha.b.x
  have haby : Is k ⟨an3, au3, ad3⟩ S.b.y := ha.b.y
  obtain ⟨⟨bn0, bu0, bd0⟩, ⟨bn1, bu1, bd1⟩⟩ := b
  have hbx : Is l ⟨bn0, bu0, bd0⟩ A.x := hb.x
  have hby : Is l ⟨bn1, bu1, bd1⟩ A.y := hb.y
  obtain ⟨r0, e0⟩ : ∃ r, r = inQ S A := ⟨_, rfl⟩
  rw [← e0]
  have hin : inQ S A = (decide (cmpP S.a A ≤ 0) && decide (cmpP A S.b ≤ 0)) := by unfold inQ; rw [Bool.decide_and]
  refine Con.of ttOk mixed Tryz.func110 {} .nil 0 (by kernel_rfl) (fun P' E hP hE => ?_)
  cbv
  refine ycmp_c hP hE (by assumption) (by assumption) (by omega) ?_
  intro m1 em1
  cbv
  refine fork.mk ?_ ?_
  · intro g1
    cbv
    refine ycmp_c hP hE (by assumption) (by assumption) (by omega) ?_
    intro m2 em2
    cbv
    subst hE
    have g1 : decide (m1 ≤ 0) = true := g1
    refine congrArg Value.bool ?_
    rw [e0, hin, ← em1, ← em2, g1]; rfl
  · intro g1
    cbv
    subst hE
    have g1 : decide (m1 ≤ 0) = false := g1
    rw [e0, hin, ← em1, g1]; rfl
theorem yin_c {P' : Program} {E : Env} (hP : P' = Tryz.prog) (hE : E = Env.std) {hh : List Blk} {K : AV → List Blk → Prop} {an0 an1 an2 an3 : Bool} {au0 ad0 au1 ad1 au2 ad2 au3 ad3 : ByteArray} {S : Sq} {k : Nat} {bn0 bn1 : Bool} {bu0 bd0 bu1 bd1 : ByteArray} {A : Pq} {l : Nat} (ha : IsS k ⟨⟨⟨an0, au0, ad0⟩, ⟨an1, au1, ad1⟩⟩, ⟨⟨an2, au2, ad2⟩, ⟨an3, au3, ad3⟩⟩⟩ S) (hb : IsP l ⟨⟨bn0, bu0, bd0⟩, ⟨bn1, bu1, bd1⟩⟩ A) (h : k + l ≤ 134217728) (hk : ∀ r0 : Bool, r0 = inQ S A → K (.v (.bool r0)) hh) : CallTo P' hh 110 [.v (.agg #[.bool an0, .string au0, .string ad0, .bool an1, .string au1, .string ad1, .bool an2, .string au2, .string ad2, .bool an3, .string au3, .string ad3]), .v (.agg #[.bool bn0, .string bu0, .string bd0, .bool bn1, .string bu1, .string bd1])] K := by
  refine CallTo.con hP hE (yin_q ha hb h) ⟨rfl, rfl, trivial⟩ ?_
  have := hk _ rfl
  simp only [outV, outW, List.append_nil]
  exact this
theorem yin_p {a : Sg} {S : Sq} {k : Nat} {b : Pt} {A : Pq} {l : Nat} (ha : IsS k a S) (hb : IsP l b A) (h : k + l ≤ 134217728) : ∃ (r0 : Bool), r0 = inQ S A ∧ Con Tryz.prog 110 [.v a.v, .v b.v] (.v (.bool r0)) := ⟨_, rfl, yin_q ha hb h⟩
theorem yon_q {a : Sg} {S : Sq} {k : Nat} {b : Pt} {A : Pq} (ha : IsS k a S) (hb : IsP k b A) (h : 16 * k + 16 ≤ 134217728) : Con Tryz.prog 38 [.v a.v, .v b.v] (.v (.bool (onR S A))) := by
  obtain ⟨⟨⟨an0, au0, ad0⟩, ⟨an1, au1, ad1⟩⟩, ⟨⟨an2, au2, ad2⟩, ⟨an3, au3, ad3⟩⟩⟩ := a
  have haa : IsP k ⟨⟨an0, au0, ad0⟩, ⟨an1, au1, ad1⟩⟩ S.a := ha.a
  have hab : IsP k ⟨⟨an2, au2, ad2⟩, ⟨an3, au3, ad3⟩⟩ S.b := ha.b
  have haax : Is k ⟨an0, au0, ad0⟩ S.a.x := ha.a.x
  have haay : Is k ⟨an1, au1, ad1⟩ S.a.y := ha.a.y
  have habx : Is k ⟨an2, au2, ad2⟩ S.b.x := ha.b.x
  have haby : Is k ⟨an3, au3, ad3⟩ S.b.y := ha.b.y
  obtain ⟨⟨bn0, bu0, bd0⟩, ⟨bn1, bu1, bd1⟩⟩ := b
  have hbx : Is k ⟨bn0, bu0, bd0⟩ A.x := hb.x
  have hby : Is k ⟨bn1, bu1, bd1⟩ A.y := hb.y
  obtain ⟨r0, e0⟩ : ∃ r, r = onR S A := ⟨_, rfl⟩
  rw [← e0]
  refine Con.of ttOk mixed Tryz.func38 { ord := [(1, [0, 1, 2, 3, 4, 5, 6, 7, 8, 10, 9, 11, 12, 13])] } .nil 0 (by kernel_rfl) (fun P' E hP hE => ?_)
  cbv
  refine yor_c hP hE (by assumption) (by assumption) (by assumption) (by omega) ?_
  intro m1 em1
  cbv
  refine fork.mk ?_ ?_
  · intro g1
    cbv
    refine yord_c hP hE (by assumption) (by omega) ?_
    intro o eo ho eoa eob hoa hob hoax hoay hobx hoby
    cbv
    refine yin_c hP hE ho hb (by omega) ?_
    intro m2 em2
    cbv
    subst hE
    have g1 : decide (m1 = 0) = true := g1
    rw [e0, onR, ← em1, g1, em2]; rfl
  · intro g1
    cbv
    subst hE
    have g1 : decide (m1 = 0) = false := g1
    rw [e0, onR, ← em1, g1]; rfl
theorem yon_c {P' : Program} {E : Env} (hP : P' = Tryz.prog) (hE : E = Env.std) {hh : List Blk} {K : AV → List Blk → Prop} {an0 an1 an2 an3 : Bool} {au0 ad0 au1 ad1 au2 ad2 au3 ad3 : ByteArray} {S : Sq} {k : Nat} {bn0 bn1 : Bool} {bu0 bd0 bu1 bd1 : ByteArray} {A : Pq} (ha : IsS k ⟨⟨⟨an0, au0, ad0⟩, ⟨an1, au1, ad1⟩⟩, ⟨⟨an2, au2, ad2⟩, ⟨an3, au3, ad3⟩⟩⟩ S) (hb : IsP k ⟨⟨bn0, bu0, bd0⟩, ⟨bn1, bu1, bd1⟩⟩ A) (h : 16 * k + 16 ≤ 134217728) (hk : ∀ r0 : Bool, r0 = onR S A → K (.v (.bool r0)) hh) : CallTo P' hh 38 [.v (.agg #[.bool an0, .string au0, .string ad0, .bool an1, .string au1, .string ad1, .bool an2, .string au2, .string ad2, .bool an3, .string au3, .string ad3]), .v (.agg #[.bool bn0, .string bu0, .string bd0, .bool bn1, .string bu1, .string bd1])] K := by
  refine CallTo.con hP hE (yon_q ha hb h) ⟨rfl, rfl, trivial⟩ ?_
  have := hk _ rfl
  simp only [outV, outW, List.append_nil]
  exact this
theorem yon_p {a : Sg} {S : Sq} {k : Nat} {b : Pt} {A : Pq} (ha : IsS k a S) (hb : IsP k b A) (h : 16 * k + 16 ≤ 134217728) : ∃ (r0 : Bool), r0 = onR S A ∧ Con Tryz.prog 38 [.v a.v, .v b.v] (.v (.bool r0)) := ⟨_, rfl, yon_q ha hb h⟩
theorem ygr_q {a : Pt} {A : Pq} {k : Nat} {b : Pt} {B : Pq} (ha : IsP k a A) (ea : a = crP A) (hb : IsP k b B) (eb : b = crP B) (h : 2 * k ≤ 134217728) : Con Tryz.prog 104 [.v a.v, .v b.v] (.v ((crP (grP A B)).v)) := by
  obtain ⟨⟨an0, au0, ad0⟩, ⟨an1, au1, ad1⟩⟩ := a
  have hax : Is k ⟨an0, au0, ad0⟩ A.x := ha.x
  have hay : Is k ⟨an1, au1, ad1⟩ A.y := ha.y
  obtain ⟨⟨bn0, bu0, bd0⟩, ⟨bn1, bu1, bd1⟩⟩ := b
  have hbx : Is k ⟨bn0, bu0, bd0⟩ B.x := hb.x
  have hby : Is k ⟨bn1, bu1, bd1⟩ B.y := hb.y
  obtain ⟨r0, e0⟩ : ∃ r, r = crP (grP A B) := ⟨_, rfl⟩
  rw [← e0]
  refine Con.of ttOk mixed Tryz.func104 {} .nil 0 (by kernel_rfl) (fun P' E hP hE => ?_)
  cbv
  refine ycmp_c hP hE (by assumption) (by assumption) (by omega) ?_
  intro m1 em1
  cbv
  refine fork.mk ?_ ?_
  · intro k1
    cbv
    subst hE
    simp [Env.std] at k1
    rw [e0, grP, if_pos (by rw [← em1]; exact k1), ← eb]
  · intro k1
    cbv
    subst hE
    simp [Env.std] at k1
    rw [e0, grP, if_neg (by rw [← em1]; omega), ← ea]
theorem ygr_c {P' : Program} {E : Env} (hP : P' = Tryz.prog) (hE : E = Env.std) {hh : List Blk} {K : AV → List Blk → Prop} {an0 an1 : Bool} {au0 ad0 au1 ad1 : ByteArray} {A : Pq} {k : Nat} {bn0 bn1 : Bool} {bu0 bd0 bu1 bd1 : ByteArray} {B : Pq} (ha : IsP k ⟨⟨an0, au0, ad0⟩, ⟨an1, au1, ad1⟩⟩ A) (ea : ⟨⟨an0, au0, ad0⟩, ⟨an1, au1, ad1⟩⟩ = crP A) (hb : IsP k ⟨⟨bn0, bu0, bd0⟩, ⟨bn1, bu1, bd1⟩⟩ B) (eb : ⟨⟨bn0, bu0, bd0⟩, ⟨bn1, bu1, bd1⟩⟩ = crP B) (h : 2 * k ≤ 134217728) (hk : ∀ r0 : Pt, r0 = crP (grP A B) → IsP (k) r0 (grP A B) → Is (k) r0.x (grP A B).x → Is (k) r0.y (grP A B).y → K (.v (r0.v)) hh) : CallTo P' hh 104 [.v (.agg #[.bool an0, .string au0, .string ad0, .bool an1, .string au1, .string ad1]), .v (.agg #[.bool bn0, .string bu0, .string bd0, .bool bn1, .string bu1, .string bd1])] K := by
  refine CallTo.con hP hE (ygr_q ha ea hb eb h) ⟨rfl, rfl, trivial⟩ ?_
  have := hk _ rfl (ha.b.gr hb.b).is (ha.b.gr hb.b).is.x (ha.b.gr hb.b).is.y
  simp only [outV, outW, List.append_nil]
  exact this
theorem ygr_p {a : Pt} {A : Pq} {k : Nat} {b : Pt} {B : Pq} (ha : IsP k a A) (ea : a = crP A) (hb : IsP k b B) (eb : b = crP B) (h : 2 * k ≤ 134217728) : ∃ (r0 : Pt), r0 = crP (grP A B) ∧ IsP (k) r0 (grP A B) ∧ Con Tryz.prog 104 [.v a.v, .v b.v] (.v (r0.v)) := ⟨_, rfl, (ha.b.gr hb.b).is, ygr_q ha ea hb eb h⟩
theorem yls_q {a : Pt} {A : Pq} {k : Nat} {b : Pt} {B : Pq} (ha : IsP k a A) (ea : a = crP A) (hb : IsP k b B) (eb : b = crP B) (h : 2 * k ≤ 134217728) : Con Tryz.prog 105 [.v a.v, .v b.v] (.v ((crP (lsP A B)).v)) := by
  obtain ⟨⟨an0, au0, ad0⟩, ⟨an1, au1, ad1⟩⟩ := a
  have hax : Is k ⟨an0, au0, ad0⟩ A.x := ha.x
  have hay : Is k ⟨an1, au1, ad1⟩ A.y := ha.y
  obtain ⟨⟨bn0, bu0, bd0⟩, ⟨bn1, bu1, bd1⟩⟩ := b
  have hbx : Is k ⟨bn0, bu0, bd0⟩ B.x := hb.x
  have hby : Is k ⟨bn1, bu1, bd1⟩ B.y := hb.y
  obtain ⟨r0, e0⟩ : ∃ r, r = crP (lsP A B) := ⟨_, rfl⟩
  rw [← e0]
  refine Con.of ttOk mixed Tryz.func105 {} .nil 0 (by kernel_rfl) (fun P' E hP hE => ?_)
  cbv
  refine ycmp_c hP hE (by assumption) (by assumption) (by omega) ?_
  intro m1 em1
  cbv
  refine fork.mk ?_ ?_
  · intro k1
    cbv
    subst hE
    simp [Env.std] at k1
    rw [e0, lsP, if_pos (by rw [← em1]; exact k1), ← ea]
  · intro k1
    cbv
    subst hE
    simp [Env.std] at k1
    rw [e0, lsP, if_neg (by rw [← em1]; omega), ← eb]
theorem yls_c {P' : Program} {E : Env} (hP : P' = Tryz.prog) (hE : E = Env.std) {hh : List Blk} {K : AV → List Blk → Prop} {an0 an1 : Bool} {au0 ad0 au1 ad1 : ByteArray} {A : Pq} {k : Nat} {bn0 bn1 : Bool} {bu0 bd0 bu1 bd1 : ByteArray} {B : Pq} (ha : IsP k ⟨⟨an0, au0, ad0⟩, ⟨an1, au1, ad1⟩⟩ A) (ea : ⟨⟨an0, au0, ad0⟩, ⟨an1, au1, ad1⟩⟩ = crP A) (hb : IsP k ⟨⟨bn0, bu0, bd0⟩, ⟨bn1, bu1, bd1⟩⟩ B) (eb : ⟨⟨bn0, bu0, bd0⟩, ⟨bn1, bu1, bd1⟩⟩ = crP B) (h : 2 * k ≤ 134217728) (hk : ∀ r0 : Pt, r0 = crP (lsP A B) → IsP (k) r0 (lsP A B) → Is (k) r0.x (lsP A B).x → Is (k) r0.y (lsP A B).y → K (.v (r0.v)) hh) : CallTo P' hh 105 [.v (.agg #[.bool an0, .string au0, .string ad0, .bool an1, .string au1, .string ad1]), .v (.agg #[.bool bn0, .string bu0, .string bd0, .bool bn1, .string bu1, .string bd1])] K := by
  refine CallTo.con hP hE (yls_q ha ea hb eb h) ⟨rfl, rfl, trivial⟩ ?_
  have := hk _ rfl (ha.b.ls hb.b).is (ha.b.ls hb.b).is.x (ha.b.ls hb.b).is.y
  simp only [outV, outW, List.append_nil]
  exact this
theorem yls_p {a : Pt} {A : Pq} {k : Nat} {b : Pt} {B : Pq} (ha : IsP k a A) (ea : a = crP A) (hb : IsP k b B) (eb : b = crP B) (h : 2 * k ≤ 134217728) : ∃ (r0 : Pt), r0 = crP (lsP A B) ∧ IsP (k) r0 (lsP A B) ∧ Con Tryz.prog 105 [.v a.v, .v b.v] (.v (r0.v)) := ⟨_, rfl, (ha.b.ls hb.b).is, yls_q ha ea hb eb h⟩
theorem or_rng (a b c : Pq) : orQ a b c = -1 ∨ orQ a b c = 0 ∨ orQ a b c = 1 := cmpQ_rng _ _
theorem wrap_oo {a b : Int} {p q r p' q' r' : Pq} (ha : a = orQ p q r) (hb : b = orQ p' q' r') : IntKind.i64.wrap (a * b) = a * b := by
  have g2 := or_rng p q r
  have g3 := or_rng p' q' r'
  rw [← ha] at g2
  rw [← hb] at g3
  exact w64 (by rcases g2 with h | h | h <;> rcases g3 with h' | h' | h' <;> rw [h, h'] <;> decide) (by rcases g2 with h | h | h <;> rcases g3 with h' | h' | h' <;> rw [h, h'] <;> decide)
theorem ycross8_q {a : Sg} {S : Sq} {k : Nat} {b : Sg} {T : Sq} (ha : IsS k a S) (hb : IsS k b T) (h : 16 * k + 16 ≤ 134217728) : Con Tryz.prog 39 [.v a.v, .v b.v] (.v (.bool (crossR S T))) := by
  obtain ⟨⟨⟨an0, au0, ad0⟩, ⟨an1, au1, ad1⟩⟩, ⟨⟨an2, au2, ad2⟩, ⟨an3, au3, ad3⟩⟩⟩ := a
  have haa : IsP k ⟨⟨an0, au0, ad0⟩, ⟨an1, au1, ad1⟩⟩ S.a := ha.a
  have hab : IsP k ⟨⟨an2, au2, ad2⟩, ⟨an3, au3, ad3⟩⟩ S.b := ha.b
  have haax : Is k ⟨an0, au0, ad0⟩ S.a.x := ha.a.x
  have haay : Is k ⟨an1, au1, ad1⟩ S.a.y := ha.a.y
  have habx : Is k ⟨an2, au2, ad2⟩ S.b.x := ha.b.x
  have haby : Is k ⟨an3, au3, ad3⟩ S.b.y := ha.b.y
  obtain ⟨⟨⟨bn0, bu0, bd0⟩, ⟨bn1, bu1, bd1⟩⟩, ⟨⟨bn2, bu2, bd2⟩, ⟨bn3, bu3, bd3⟩⟩⟩ := b
  have hba : IsP k ⟨⟨bn0, bu0, bd0⟩, ⟨bn1, bu1, bd1⟩⟩ T.a := hb.a
  have hbb : IsP k ⟨⟨bn2, bu2, bd2⟩, ⟨bn3, bu3, bd3⟩⟩ T.b := hb.b
  have hbax : Is k ⟨bn0, bu0, bd0⟩ T.a.x := hb.a.x
  have hbay : Is k ⟨bn1, bu1, bd1⟩ T.a.y := hb.a.y
  have hbbx : Is k ⟨bn2, bu2, bd2⟩ T.b.x := hb.b.x
  have hbby : Is k ⟨bn3, bu3, bd3⟩ T.b.y := hb.b.y
  obtain ⟨r0, e0⟩ : ∃ r, r = crossR S T := ⟨_, rfl⟩
  rw [← e0]
  have hc : crossR S T = (decide (orQ S.a S.b T.a * orQ S.a S.b T.b < 0) && decide (orQ T.a T.b S.a * orQ T.a T.b S.b < 0)) := by unfold crossR; rw [Bool.decide_and]
  refine Con.of ttOk mixed Tryz.func39 { ord := [(1, [0, 1, 2, 3, 4, 5, 7, 8, 9, 10, 11, 12, 6, 13, 14, 15, 16, 17, 18, 19, 20, 21, 22, 24, 25, 26, 27, 28, 29, 23, 30, 31, 32, 33, 34])] } .nil 0 (by kernel_rfl) (fun P' E hP hE => ?_)
  cbv
  refine yor_c hP hE (by assumption) (by assumption) (by assumption) (by omega) ?_
  intro o1 eo1
  cbv
  refine yor_c hP hE (by assumption) (by assumption) (by assumption) (by omega) ?_
  intro o2 eo2
  cbv
  have w1 := wrap_oo eo1 eo2
  refine fork.mk ?_ ?_
  · intro g1
    cbv
    refine yor_c hP hE (by assumption) (by assumption) (by assumption) (by omega) ?_
    intro o3 eo3
    cbv
    refine yor_c hP hE (by assumption) (by assumption) (by assumption) (by omega) ?_
    intro o4 eo4
    cbv
    have w2 := wrap_oo eo3 eo4
    subst hE
    have g1 : decide (IntKind.i64.wrap (o1 * o2) < 0) = true := g1
    rw [w1] at g1
    refine congrArg Value.bool ?_
    rw [e0, hc, ← eo1, ← eo2, ← eo3, ← eo4, g1]
    show decide (IntKind.i64.wrap (o3 * o4) < 0) = _
    rw [w2]; rfl
  · intro g1
    cbv
    subst hE
    have g1 : decide (IntKind.i64.wrap (o1 * o2) < 0) = false := g1
    rw [w1] at g1
    rw [e0, hc, ← eo1, ← eo2, g1]; rfl
theorem ycross8_c {P' : Program} {E : Env} (hP : P' = Tryz.prog) (hE : E = Env.std) {hh : List Blk} {K : AV → List Blk → Prop} {an0 an1 an2 an3 : Bool} {au0 ad0 au1 ad1 au2 ad2 au3 ad3 : ByteArray} {S : Sq} {k : Nat} {bn0 bn1 bn2 bn3 : Bool} {bu0 bd0 bu1 bd1 bu2 bd2 bu3 bd3 : ByteArray} {T : Sq} (ha : IsS k ⟨⟨⟨an0, au0, ad0⟩, ⟨an1, au1, ad1⟩⟩, ⟨⟨an2, au2, ad2⟩, ⟨an3, au3, ad3⟩⟩⟩ S) (hb : IsS k ⟨⟨⟨bn0, bu0, bd0⟩, ⟨bn1, bu1, bd1⟩⟩, ⟨⟨bn2, bu2, bd2⟩, ⟨bn3, bu3, bd3⟩⟩⟩ T) (h : 16 * k + 16 ≤ 134217728) (hk : ∀ r0 : Bool, r0 = crossR S T → K (.v (.bool r0)) hh) : CallTo P' hh 39 [.v (.agg #[.bool an0, .string au0, .string ad0, .bool an1, .string au1, .string ad1, .bool an2, .string au2, .string ad2, .bool an3, .string au3, .string ad3]), .v (.agg #[.bool bn0, .string bu0, .string bd0, .bool bn1, .string bu1, .string bd1, .bool bn2, .string bu2, .string bd2, .bool bn3, .string bu3, .string bd3])] K := by
  refine CallTo.con hP hE (ycross8_q ha hb h) ⟨rfl, rfl, trivial⟩ ?_
  have := hk _ rfl
  simp only [outV, outW, List.append_nil]
  exact this
theorem ycross8_p {a : Sg} {S : Sq} {k : Nat} {b : Sg} {T : Sq} (ha : IsS k a S) (hb : IsS k b T) (h : 16 * k + 16 ≤ 134217728) : ∃ (r0 : Bool), r0 = crossR S T ∧ Con Tryz.prog 39 [.v a.v, .v b.v] (.v (.bool r0)) := ⟨_, rfl, ycross8_q ha hb h⟩
theorem ymeet_q {a : Sg} {S : Sq} {k : Nat} {b : Sg} {T : Sq} (ha : IsS k a S) (hb : IsS k b T) (h : 40 * k + 40 ≤ 134217728) : Con Tryz.prog 32 [.v a.v, .v b.v] (.v (.tuple #[(crS (meetS S T)).v, .bool (meetB S T), .int .i64 (meetE S T)])) := by
  obtain ⟨⟨⟨an0, au0, ad0⟩, ⟨an1, au1, ad1⟩⟩, ⟨⟨an2, au2, ad2⟩, ⟨an3, au3, ad3⟩⟩⟩ := a
  have haa : IsP k ⟨⟨an0, au0, ad0⟩, ⟨an1, au1, ad1⟩⟩ S.a := ha.a
  have hab : IsP k ⟨⟨an2, au2, ad2⟩, ⟨an3, au3, ad3⟩⟩ S.b := ha.b
  have haax : Is k ⟨an0, au0, ad0⟩ S.a.x := ha.a.x
  have haay : Is k ⟨an1, au1, ad1⟩ S.a.y := ha.a.y
  have habx : Is k ⟨an2, au2, ad2⟩ S.b.x := ha.b.x
  have haby : Is k ⟨an3, au3, ad3⟩ S.b.y := ha.b.y
  obtain ⟨⟨⟨bn0, bu0, bd0⟩, ⟨bn1, bu1, bd1⟩⟩, ⟨⟨bn2, bu2, bd2⟩, ⟨bn3, bu3, bd3⟩⟩⟩ := b
  have hba : IsP k ⟨⟨bn0, bu0, bd0⟩, ⟨bn1, bu1, bd1⟩⟩ T.a := hb.a
  have hbb : IsP k ⟨⟨bn2, bu2, bd2⟩, ⟨bn3, bu3, bd3⟩⟩ T.b := hb.b
  have hbax : Is k ⟨bn0, bu0, bd0⟩ T.a.x := hb.a.x
  have hbay : Is k ⟨bn1, bu1, bd1⟩ T.a.y := hb.a.y
  have hbbx : Is k ⟨bn2, bu2, bd2⟩ T.b.x := hb.b.x
  have hbby : Is k ⟨bn3, bu3, bd3⟩ T.b.y := hb.b.y
  obtain ⟨r0, e0⟩ : ∃ r, r = crS (meetS S T) := ⟨_, rfl⟩
  rw [← e0]
  obtain ⟨r1, e1⟩ : ∃ r, r = meetB S T := ⟨_, rfl⟩
  rw [← e1]
  obtain ⟨r2, e2⟩ : ∃ r, r = meetE S T := ⟨_, rfl⟩
  rw [← e2]
  obtain ⟨os, eos, hos, kos⟩ := yord_p ha (by omega)
  obtain ⟨ot, eot, hot, kot⟩ := yord_p hb (by omega)
  have hosa : IsP k os.a (ordS S).a := hos.a
  have hosb : IsP k os.b (ordS S).b := hos.b
  have hota : IsP k ot.a (ordS T).a := hot.a
  have hotb : IsP k ot.b (ordS T).b := hot.b
  obtain ⟨u, eu, hu, ku⟩ := ysub_p hosb hosa (by omega)
  obtain ⟨v, ev, hv, kv⟩ := ysub_p hotb hota (by omega)
  obtain ⟨d, ed, hd, kd⟩ := ycross_p hu hv (by omega)
  obtain ⟨a, eaa, haa1, kaa⟩ := ygr_p hosa (by rw [eos]; rfl) hota (by rw [eot]; rfl) (by omega)
  obtain ⟨b, ebb, hbb1, kbb⟩ := yls_p hosb (by rw [eos]; rfl) hotb (by rw [eot]; rfl) (by omega)
  obtain ⟨w, ew, hw, kw⟩ := ysub_p hota hosa (by omega)
  obtain ⟨c1, ec1, hc1, kc1⟩ := ycross_p hw hv (by omega)
  obtain ⟨x, xe, ex, hx, exe, kx⟩ := xquo_p hc1 hd (by omega)
  obtain ⟨sc, esc, hsc, ksc⟩ := yscale_p hu hx (by omega)
  obtain ⟨p, ep, hp, kp⟩ := yadd_p hosa hsc (by omega)
  have wr : chkQ S ≠ 0 ∨ chkQ T ≠ 0 → r0 = crS Sq.zero ∧ r1 = false ∧ r2 = 12 := by
    intro h
    have hm : wrongQ S T = true := decide_eq_true h
    rw [e0, e1, e2, meetS, meetB, meetE, if_pos hm, if_pos hm, if_pos hm]
    exact ⟨rfl, rfl, rfl⟩
  have fin : chkQ S = 0 → chkQ T = 0 → ∀ X, meet1 (ordS S) (ordS T) = X → r0 = crS (X.getD Sq.zero) ∧ r1 = X.isSome ∧ r2 = 0 := by
    intro h1 h2 X hX
    have hm : ¬ wrongQ S T = true := by unfold wrongQ; simp [h1, h2]
    have hne1 : S.a ≠ S.b := fun e => absurd h1 (chkQ_iff.2 e)
    have hne2 : T.a ≠ T.b := fun e => absurd h2 (chkQ_iff.2 e)
    rw [meet_ref hne1 hne2] at hX
    rw [e0, e1, e2, meetS, meetB, meetE, if_neg hm, if_neg hm, if_neg hm, hX]
    exact ⟨rfl, rfl, rfl⟩
  clear e0 e1 e2
  refine Con.of ttOk mixed Tryz.func32 { ord := [(3, [0, 2, 1, 3, 4, 5]), (4, (.op 0 (.op 1 (.op 2 (.op 3 (.op 5 (.op 6 (.op 7 (.op 8 (.br 4 (.br 9 (.br 10 (.op 11 (.op 12 (.op 13 .nil))) (.br 11 (.op 10 (.op 12 (.op 13 .nil))) .stop)) (.br 10 (.br 9 (.op 11 (.op 12 (.op 13 .nil))) (.br 11 (.op 9 (.op 12 (.op 13 .nil))) .stop)) (.br 11 (.br 9 (.op 10 (.op 12 (.op 13 .nil))) (.br 10 (.op 9 (.op 12 (.op 13 .nil))) .stop)) .stop))) (.br 10 (.br 4 (.br 9 (.op 11 (.op 12 (.op 13 .nil))) (.br 11 (.op 9 (.op 12 (.op 13 .nil))) .stop)) (.br 11 (.op 4 (.op 9 (.op 12 (.op 13 .nil)))) .stop)) (.br 11 (.br 4 (.br 9 (.op 10 (.op 12 (.op 13 .nil))) (.br 10 (.op 9 (.op 12 (.op 13 .nil))) .stop)) (.br 10 (.op 4 (.op 9 (.op 12 (.op 13 .nil)))) .stop)) .stop)))))))))))), (9, (.op 0 (.op 1 (.op 2 (.op 3 (.op 5 (.op 6 (.op 7 (.op 8 (.br 4 (.br 9 (.br 10 (.op 11 (.op 12 (.op 13 .nil))) (.br 11 (.op 10 (.op 12 (.op 13 .nil))) .stop)) (.br 10 (.br 9 (.op 11 (.op 12 (.op 13 .nil))) (.br 11 (.op 9 (.op 12 (.op 13 .nil))) .stop)) (.br 11 (.br 9 (.op 10 (.op 12 (.op 13 .nil))) (.br 10 (.op 9 (.op 12 (.op 13 .nil))) .stop)) .stop))) (.br 10 (.br 4 (.br 9 (.op 11 (.op 12 (.op 13 .nil))) (.br 11 (.op 9 (.op 12 (.op 13 .nil))) .stop)) (.br 11 (.op 4 (.op 9 (.op 12 (.op 13 .nil)))) .stop)) (.br 11 (.br 4 (.br 9 (.op 10 (.op 12 (.op 13 .nil))) (.br 10 (.op 9 (.op 12 (.op 13 .nil))) .stop)) (.br 10 (.op 4 (.op 9 (.op 12 (.op 13 .nil)))) .stop)) .stop)))))))))))), (13, (.op 0 (.op 1 (.op 2 (.op 3 (.op 5 (.op 7 (.br 4 (.br 6 (.br 8 (.op 9 (.op 10 (.op 11 (.op 12 (.op 13 (.op 14 .nil)))))) (.br 12 (.op 8 (.op 9 (.op 10 (.op 11 (.op 13 (.op 14 .nil)))))) .stop)) (.br 12 (.op 6 (.op 8 (.op 9 (.op 10 (.op 11 (.op 13 (.op 14 .nil))))))) .stop)) (.br 12 (.op 4 (.op 6 (.op 8 (.op 9 (.op 10 (.op 11 (.op 13 (.op 14 .nil)))))))) .stop))))))))), (14, (.op 0 (.op 1 (.op 2 (.op 3 (.br 4 (.br 5 (.op 6 (.op 7 .nil)) (.br 6 (.op 5 (.op 7 .nil)) .stop)) (.br 6 (.op 4 (.op 5 (.op 7 .nil))) .stop)))))))] } .nil 0 (by kernel_rfl) (fun P' E hP hE => ?_)
  cbv
  refine ychk_c hP hE ha (by omega) ?_
  intro m1 em1
  cbv
  refine fork.mk ?_ ?_
  · intro g1
    have q := wr (.inl (by subst hE; simp [Env.std] at g1; rw [← em1]; exact g1))
    cbv
    rw [q.1, q.2.1, q.2.2, crS_zero]
  · intro g1
    have h1 : chkQ S = 0 := by subst hE; simp [Env.std] at g1; rw [← em1]; exact g1
    cbv
    refine ychk_c hP hE hb (by omega) ?_
    intro m2 em2
    cbv
    refine fork.mk ?_ ?_
    · intro g2
      have q := wr (.inr (by subst hE; simp [Env.std] at g2; rw [← em2]; exact g2))
      cbv
      rw [q.1, q.2.1, q.2.2, crS_zero]
    · intro g2
      have h2 : chkQ T = 0 := by subst hE; simp [Env.std] at g2; rw [← em2]; exact g2
      have fin := fin h1 h2
      clear wr
      cbv
      refine CallTo.w hP hE kos ⟨rfl, trivial⟩ ?_
      cbv
      refine CallTo.w hP hE kot ⟨rfl, trivial⟩ ?_
      cbv
      refine DrawTo.byU [(7, .p 5 0), (8, .p 6 0)] [.cells u.av 25, .cells v.av 25] ?_ ?_
      · cbv
        repeat' first
          | exact True.intro
          | (refine Both.mk ?_ ?_ <;> cbv)
          | (refine CallTo.w hP hE ku ⟨rfl, rfl, trivial⟩ ?_; cbv)
          | (refine CallTo.w hP hE kv ⟨rfl, rfl, trivial⟩ ?_; cbv)
          | (simp only [and_self]; done)
      cbv
      refine CallTo.w hP hE kd ⟨rfl, rfl, trivial⟩ ?_
      cbv
      refine xsign_c hP hE hd (by omega) ?_
      intro m3 em3
      cbv
      refine fork.mk ?_ ?_
      · intro g3
        have g3 : cmpQ (((ordS S).b.sub (ordS S).a).cross ((ordS T).b.sub (ordS T).a)) 0 = 0 := by
          rw [← em3]; subst hE; exact of_decide_eq_true (show decide (m3 = 0) = true from g3)
        cbv
        refine yor_c hP hE hosa hosb hota (by omega) ?_
        intro m4 em4
        cbv
        refine fork.mk ?_ ?_
        · intro g4
          have q := fin none (by
            unfold meet1
            rw [if_pos g3, if_pos (by rw [← em4]; subst hE; simp [Env.std] at g4; exact g4)])
          cbv
          rw [q.1, q.2.1, q.2.2]
          show _ = Value.tuple #[(crS Sq.zero).v, _, _]
          rw [crS_zero]; rfl
        · intro g4
          have g4 : ¬ orQ (ordS S).a (ordS S).b (ordS T).a ≠ 0 := by rw [← em4]; subst hE; simp [Env.std] at g4; omega
          cbv
          first
            | (refine DrawTo.byU [(10, .p 8 0), (11, .p 9 0)] [.cells a.av 25, .cells b.av 25] ?_ ?_
               · cbv
                 repeat' first
                   | exact True.intro
                   | (refine Both.mk ?_ ?_ <;> cbv)
                   | (refine CallTo.w hP hE kaa ⟨rfl, rfl, trivial⟩ ?_; cbv)
                   | (refine CallTo.w hP hE kbb ⟨rfl, rfl, trivial⟩ ?_; cbv)
                   | (simp only [and_self]; done))
            | (refine CallTo.w hP hE kaa ⟨rfl, rfl, trivial⟩ ?_
               cbv
               refine CallTo.w hP hE kbb ⟨rfl, rfl, trivial⟩ ?_)
          cbv
          refine ycmp_c hP hE haa1 hbb1 (by omega) ?_
          intro m5 em5
          cbv
          refine fork.mk ?_ ?_
          · intro g5
            have q := fin none (by
              unfold meet1
              rw [if_pos g3, if_neg g4, if_pos (by rw [← em5]; subst hE; exact of_decide_eq_true (show decide (m5 > 0) = true from g5))])
            cbv
            rw [q.1, q.2.1, q.2.2]
            show _ = Value.tuple #[(crS Sq.zero).v, _, _]
            rw [crS_zero]; rfl
          · intro g5
            have q := fin _ (by
              unfold meet1
              rw [if_pos g3, if_neg g4, if_neg (by rw [← em5]; subst hE; exact of_decide_eq_false (show decide (m5 > 0) = false from g5))])
            cbv
            rw [q.1, q.2.1, q.2.2, eaa, ebb]; rfl
      · intro g3
        have g3 : ¬ cmpQ (((ordS S).b.sub (ordS S).a).cross ((ordS T).b.sub (ordS T).a)) 0 = 0 := by
          rw [← em3]; subst hE; exact of_decide_eq_false (show decide (m3 = 0) = false from g3)
        cbv
        refine DrawTo.byU [(12, .p 8 0), (13, .v (.int .i64 xe))] [.cells x.av 23] ?_ ?_
        · cbv
          repeat' first
            | exact True.intro
            | (refine Both.mk ?_ ?_ <;> cbv)
            | (refine CallTo.w hP hE kw ⟨rfl, rfl, trivial⟩ ?_; cbv)
            | (refine CallTo.w hP hE kc1 ⟨rfl, rfl, trivial⟩ ?_; cbv)
            | (refine CallTo.w hP hE kx ⟨rfl, rfl, trivial⟩ ?_; cbv)
            | (simp only [and_self]; done)
        cbv
        refine DrawTo.byU [(14, .p 9 0)] [.cells p.av 25] ?_ ?_
        · cbv
          repeat' first
            | exact True.intro
            | (refine Both.mk ?_ ?_ <;> cbv)
            | (refine CallTo.w hP hE ksc ⟨rfl, rfl, trivial⟩ ?_; cbv)
            | (refine CallTo.w hP hE kp ⟨rfl, rfl, trivial⟩ ?_; cbv)
            | (simp only [and_self]; done)
        cbv
        refine yin_c hP hE hos hp (by omega) ?_
        intro b1 eb1
        cbv
        refine fork.mk ?_ ?_
        · intro g5
          have g5 : b1 = false := by subst hE; simpa [Env.std] using g5
          have q := fin none (by
            unfold meet1
            rw [if_neg g3, if_neg (fun h => by rw [← eb1, g5] at h; exact absurd h.1 (by decide))])
          cbv
          rw [q.1, q.2.1, q.2.2]
          show _ = Value.tuple #[(crS Sq.zero).v, _, _]
          rw [crS_zero]; rfl
        · intro g5
          have g5 : b1 = true := by subst hE; simpa [Env.std] using g5
          cbv
          refine yin_c hP hE hot hp (by omega) ?_
          intro b2 eb2
          cbv
          refine fork.mk ?_ ?_
          · intro g6
            have g6 : b2 = false := by subst hE; simpa [Env.std] using g6
            have q := fin none (by
              unfold meet1
              rw [if_neg g3, if_neg (fun h => by rw [← eb2, g6] at h; exact absurd h.2 (by decide))])
            cbv
            rw [q.1, q.2.1, q.2.2]
            show _ = Value.tuple #[(crS Sq.zero).v, _, _]
            rw [crS_zero]; rfl
          · intro g6
            have g6 : b2 = true := by subst hE; simpa [Env.std] using g6
            have q := fin _ (by
              unfold meet1
              rw [if_neg g3, if_pos ⟨eb1.symm.trans g5, eb2.symm.trans g6⟩])
            cbv
            rw [q.1, q.2.1, q.2.2, ep]; rfl
theorem ymeet_c {P' : Program} {E : Env} (hP : P' = Tryz.prog) (hE : E = Env.std) {hh : List Blk} {K : AV → List Blk → Prop} {an0 an1 an2 an3 : Bool} {au0 ad0 au1 ad1 au2 ad2 au3 ad3 : ByteArray} {S : Sq} {k : Nat} {bn0 bn1 bn2 bn3 : Bool} {bu0 bd0 bu1 bd1 bu2 bd2 bu3 bd3 : ByteArray} {T : Sq} (ha : IsS k ⟨⟨⟨an0, au0, ad0⟩, ⟨an1, au1, ad1⟩⟩, ⟨⟨an2, au2, ad2⟩, ⟨an3, au3, ad3⟩⟩⟩ S) (hb : IsS k ⟨⟨⟨bn0, bu0, bd0⟩, ⟨bn1, bu1, bd1⟩⟩, ⟨⟨bn2, bu2, bd2⟩, ⟨bn3, bu3, bd3⟩⟩⟩ T) (h : 40 * k + 40 ≤ 134217728) (hk : ∀ r0 : Sg, r0 = crS (meetS S T) → IsS (20 * k + 20) r0 (meetS S T) → r0.a = crP (meetS S T).a → r0.b = crP (meetS S T).b → IsP (20 * k + 20) r0.a (meetS S T).a → IsP (20 * k + 20) r0.b (meetS S T).b → Is (20 * k + 20) r0.a.x (meetS S T).a.x → Is (20 * k + 20) r0.a.y (meetS S T).a.y → Is (20 * k + 20) r0.b.x (meetS S T).b.x → Is (20 * k + 20) r0.b.y (meetS S T).b.y → ∀ r1 : Bool, r1 = meetB S T → ∀ r2 : Int, r2 = meetE S T → K (.v (.tuple #[r0.v, .bool r1, .int .i64 r2])) hh) : CallTo P' hh 32 [.v (.agg #[.bool an0, .string au0, .string ad0, .bool an1, .string au1, .string ad1, .bool an2, .string au2, .string ad2, .bool an3, .string au3, .string ad3]), .v (.agg #[.bool bn0, .string bu0, .string bd0, .bool bn1, .string bu1, .string bd1, .bool bn2, .string bu2, .string bd2, .bool bn3, .string bu3, .string bd3])] K := by
  refine CallTo.con hP hE (ymeet_q ha hb h) ⟨rfl, rfl, trivial⟩ ?_
  have := hk _ rfl (ha.bd.meetS hb.bd).is rfl rfl (ha.bd.meetS hb.bd).is.a (ha.bd.meetS hb.bd).is.b (ha.bd.meetS hb.bd).is.a.x (ha.bd.meetS hb.bd).is.a.y (ha.bd.meetS hb.bd).is.b.x (ha.bd.meetS hb.bd).is.b.y _ rfl _ rfl
  simp only [outV, outW, List.append_nil]
  exact this
theorem ymeet_p {a : Sg} {S : Sq} {k : Nat} {b : Sg} {T : Sq} (ha : IsS k a S) (hb : IsS k b T) (h : 40 * k + 40 ≤ 134217728) : ∃ (r0 : Sg) (r1 : Bool) (r2 : Int), r0 = crS (meetS S T) ∧ IsS (20 * k + 20) r0 (meetS S T) ∧ r1 = meetB S T ∧ r2 = meetE S T ∧ Con Tryz.prog 32 [.v a.v, .v b.v] (.v (.tuple #[r0.v, .bool r1, .int .i64 r2])) := ⟨_, _, _, rfl, (ha.bd.meetS hb.bd).is, rfl, rfl, ymeet_q ha hb h⟩
end Go.Proofs.YtfdealobplcboaaGreat.Sx

/- Join: the reference's and the program's. -/
set_option linter.unusedVariables false
set_option linter.unusedSimpArgs false
set_option maxRecDepth 100000
set_option maxHeartbeats 8000000
namespace Go.Proofs.YtfdealobplcboaaGreat.Sx

theorem yjoin_q {a : Sg} {S : Sq} {k : Nat} {b : Sg} {T : Sq} (ha : IsS k a S) (hb : IsS k b T) (h : 40 * k + 40 ≤ 134217728) : Con Tryz.prog 34 [.v a.v, .v b.v] (.v (.tuple #[(crS (joinS S T)).v, .int .i64 (joinE S T)])) := by
  obtain ⟨⟨⟨an0, au0, ad0⟩, ⟨an1, au1, ad1⟩⟩, ⟨⟨an2, au2, ad2⟩, ⟨an3, au3, ad3⟩⟩⟩ := a
  have haa : IsP k ⟨⟨an0, au0, ad0⟩, ⟨an1, au1, ad1⟩⟩ S.a := ha.a
  have hab : IsP k ⟨⟨an2, au2, ad2⟩, ⟨an3, au3, ad3⟩⟩ S.b := ha.b
  have haax : Is k ⟨an0, au0, ad0⟩ S.a.x := ha.a.x
  have haay : Is k ⟨an1, au1, ad1⟩ S.a.y := ha.a.y
  have habx : Is k ⟨an2, au2, ad2⟩ S.b.x := ha.b.x
  have haby : Is k ⟨an3, au3, ad3⟩ S.b.y := ha.b.y
  obtain ⟨⟨⟨bn0, bu0, bd0⟩, ⟨bn1, bu1, bd1⟩⟩, ⟨⟨bn2, bu2, bd2⟩, ⟨bn3, bu3, bd3⟩⟩⟩ := b
  have hba : IsP k ⟨⟨bn0, bu0, bd0⟩, ⟨bn1, bu1, bd1⟩⟩ T.a := hb.a
  have hbb : IsP k ⟨⟨bn2, bu2, bd2⟩, ⟨bn3, bu3, bd3⟩⟩ T.b := hb.b
  have hbax : Is k ⟨bn0, bu0, bd0⟩ T.a.x := hb.a.x
  have hbay : Is k ⟨bn1, bu1, bd1⟩ T.a.y := hb.a.y
  have hbbx : Is k ⟨bn2, bu2, bd2⟩ T.b.x := hb.b.x
  have hbby : Is k ⟨bn3, bu3, bd3⟩ T.b.y := hb.b.y
  obtain ⟨r0, e0⟩ : ∃ r, r = crS (joinS S T) := ⟨_, rfl⟩
  rw [← e0]
  obtain ⟨r1, e1⟩ : ∃ r, r = joinE S T := ⟨_, rfl⟩
  rw [← e1]
  obtain ⟨os, eos, hos, kos⟩ := yord_p ha (by omega)
  obtain ⟨ot, eot, hot, kot⟩ := yord_p hb (by omega)
  have hosa : IsP k os.a (ordS S).a := hos.a
  have hosb : IsP k os.b (ordS S).b := hos.b
  have hota : IsP k ot.a (ordS T).a := hot.a
  have hotb : IsP k ot.b (ordS T).b := hot.b
  obtain ⟨a, eaa, haa1, kaa⟩ := yls_p hosa (by rw [eos]; rfl) hota (by rw [eot]; rfl) (by omega)
  obtain ⟨b, ebb, hbb1, kbb⟩ := ygr_p hosb (by rw [eos]; rfl) hotb (by rw [eot]; rfl) (by omega)
  have fin : ∀ i, joinR S T = i → r1 = i ∧ r0 = if i = 0 then ⟨a, b⟩ else crS Sq.zero := by
    intro i hi
    rw [joinR_eq] at hi
    rw [e0, e1, joinS, hi, eaa, ebb]
    refine ⟨rfl, ?_⟩
    split
    · rfl
    · rfl
  have q12 : chkQ S ≠ 0 ∨ chkQ T ≠ 0 → joinR S T = 12 := by
    intro h
    have hm : wrongQ S T = true := decide_eq_true h
    rw [joinR, if_pos hm]
  have q9 : chkQ S = 0 → chkQ T = 0 → (orQ S.a S.b T.a ≠ 0 ∨ orQ S.a S.b T.b ≠ 0) → joinR S T = 9 := by
    intro h1 h2 h
    have hm : ¬ wrongQ S T = true := by unfold wrongQ; simp [h1, h2]
    rw [joinR, if_neg hm, if_pos h]
  have q11 : chkQ S = 0 → chkQ T = 0 → ¬ (orQ S.a S.b T.a ≠ 0 ∨ orQ S.a S.b T.b ≠ 0) → cmpP (ordS S).b (ordS T).a < 0 ∨ cmpP (ordS T).b (ordS S).a < 0 → joinR S T = 11 := by
    intro h1 h2 h h3
    have hm : ¬ wrongQ S T = true := by unfold wrongQ; simp [h1, h2]
    rw [joinR, if_neg hm, if_neg h, if_pos h3]
  have q0 : chkQ S = 0 → chkQ T = 0 → ¬ (orQ S.a S.b T.a ≠ 0 ∨ orQ S.a S.b T.b ≠ 0) → ¬ (cmpP (ordS S).b (ordS T).a < 0 ∨ cmpP (ordS T).b (ordS S).a < 0) → joinR S T = 0 := by
    intro h1 h2 h h3
    have hm : ¬ wrongQ S T = true := by unfold wrongQ; simp [h1, h2]
    rw [joinR, if_neg hm, if_neg h, if_neg h3]
  clear e0 e1
  refine Con.of ttOk mixed Tryz.func34 { ord := [(5, [0, 2, 1, 3, 4, 5]), (8, [0, 1, 2, 3, 5, 6, 7, 8, 4, 9, 10, 11, 12])] } .nil 0 (by kernel_rfl) (fun P' E hP hE => ?_)
  cbv
  refine ychk_c hP hE ha (by omega) ?_
  intro m1 em1
  cbv
  refine fork.mk ?_ ?_
  · intro g1
    have q := fin 12 (q12 (.inl (by subst hE; simp [Env.std] at g1; rw [← em1]; exact g1)))
    cbv
    rw [q.1, q.2]
    show _ = Value.tuple #[(crS Sq.zero).v, _]
    rw [crS_zero]
  · intro g1
    have h1 : chkQ S = 0 := by subst hE; simp [Env.std] at g1; rw [← em1]; exact g1
    cbv
    refine ychk_c hP hE hb (by omega) ?_
    intro m2 em2
    cbv
    refine fork.mk ?_ ?_
    · intro g2
      have q := fin 12 (q12 (.inr (by subst hE; simp [Env.std] at g2; rw [← em2]; exact g2)))
      cbv
      rw [q.1, q.2]
      show _ = Value.tuple #[(crS Sq.zero).v, _]
      rw [crS_zero]
    · intro g2
      have h2 : chkQ T = 0 := by subst hE; simp [Env.std] at g2; rw [← em2]; exact g2
      have q9 := q9 h1 h2
      have q11 := q11 h1 h2
      have q0 := q0 h1 h2
      clear q12 em1 em2 g1 g2
      cbv
      refine yor_c hP hE ha.a ha.b hb.a (by omega) ?_
      intro m3 em3
      cbv
      have no9 : m3 ≠ 0 → _ := fun h => fin 9 (q9 (.inl (em3 ▸ h)))
      refine fork.mk ?_ ?_
      · intro g3
        have q := no9 (by subst hE; exact of_decide_eq_true (show decide (m3 ≠ 0) = true from by simpa [Env.std] using g3))
        cbv
        rw [q.1, q.2]
        show _ = Value.tuple #[(crS Sq.zero).v, _]
        rw [crS_zero]
      · intro g3
        have g3 : m3 = 0 := by subst hE; simpa [Env.std] using g3
        cbv
        refine yor_c hP hE ha.a ha.b hb.b (by omega) ?_
        intro m4 em4
        cbv
        refine fork.mk ?_ ?_
        · intro g4
          have q := fin 9 (q9 (.inr (by rw [← em4]; subst hE; simpa [Env.std] using g4)))
          cbv
          rw [q.1, q.2]
          show _ = Value.tuple #[(crS Sq.zero).v, _]
          rw [crS_zero]
        · intro g4
          have g4 : m4 = 0 := by subst hE; simpa [Env.std] using g4
          have ho : ¬ (orQ S.a S.b T.a ≠ 0 ∨ orQ S.a S.b T.b ≠ 0) := by
            rw [← em3, ← em4]; omega
          have q11 := q11 ho
          have q0 := q0 ho
          clear q9 no9 ho em3 em4 g3 g4
          cbv
          refine CallTo.w hP hE kos ⟨rfl, trivial⟩ ?_
          cbv
          refine CallTo.w hP hE kot ⟨rfl, trivial⟩ ?_
          cbv
          refine ycmp_c hP hE hosb hota (by omega) ?_
          intro m5 em5
          cbv
          refine fork.mk ?_ ?_
          · intro g5
            have q := fin 11 (q11 (.inl (by rw [← em5]; subst hE; exact of_decide_eq_true (show decide (m5 < 0) = true from g5))))
            cbv
            rw [q.1, q.2]
            show _ = Value.tuple #[(crS Sq.zero).v, _]
            rw [crS_zero]
          · intro g5
            have g5 : ¬ m5 < 0 := by subst hE; exact of_decide_eq_false (show decide (m5 < 0) = false from g5)
            cbv
            refine ycmp_c hP hE hotb hosa (by omega) ?_
            intro m6 em6
            cbv
            refine fork.mk ?_ ?_
            · intro g6
              have q := fin 11 (q11 (.inr (by rw [← em6]; subst hE; exact of_decide_eq_true (show decide (m6 < 0) = true from g6))))
              cbv
              rw [q.1, q.2]
              show _ = Value.tuple #[(crS Sq.zero).v, _]
              rw [crS_zero]
            · intro g6
              have g6 : ¬ m6 < 0 := by subst hE; exact of_decide_eq_false (show decide (m6 < 0) = false from g6)
              have q := fin 0 (q0 (by rw [← em5, ← em6]; omega))
              rw [q.1, q.2, if_pos rfl]
              clear q fin q0 q11
              cbv
              try refine DrawTo.run ?_
              try cbv
              repeat' first
                | exact True.intro
                | (refine Both.mk ?_ ?_ <;> cbv)
                | (refine CallTo.w hP hE kaa ⟨rfl, rfl, trivial⟩ ?_; cbv)
                | (refine CallTo.w hP hE kbb ⟨rfl, rfl, trivial⟩ ?_; cbv)
                | (simp only [and_self]; done)
theorem yjoin_c {P' : Program} {E : Env} (hP : P' = Tryz.prog) (hE : E = Env.std) {hh : List Blk} {K : AV → List Blk → Prop} {an0 an1 an2 an3 : Bool} {au0 ad0 au1 ad1 au2 ad2 au3 ad3 : ByteArray} {S : Sq} {k : Nat} {bn0 bn1 bn2 bn3 : Bool} {bu0 bd0 bu1 bd1 bu2 bd2 bu3 bd3 : ByteArray} {T : Sq} (ha : IsS k ⟨⟨⟨an0, au0, ad0⟩, ⟨an1, au1, ad1⟩⟩, ⟨⟨an2, au2, ad2⟩, ⟨an3, au3, ad3⟩⟩⟩ S) (hb : IsS k ⟨⟨⟨bn0, bu0, bd0⟩, ⟨bn1, bu1, bd1⟩⟩, ⟨⟨bn2, bu2, bd2⟩, ⟨bn3, bu3, bd3⟩⟩⟩ T) (h : 40 * k + 40 ≤ 134217728) (hk : ∀ r0 : Sg, r0 = crS (joinS S T) → IsS (k) r0 (joinS S T) → r0.a = crP (joinS S T).a → r0.b = crP (joinS S T).b → IsP (k) r0.a (joinS S T).a → IsP (k) r0.b (joinS S T).b → Is (k) r0.a.x (joinS S T).a.x → Is (k) r0.a.y (joinS S T).a.y → Is (k) r0.b.x (joinS S T).b.x → Is (k) r0.b.y (joinS S T).b.y → ∀ r1 : Int, r1 = joinE S T → K (.v (.tuple #[r0.v, .int .i64 r1])) hh) : CallTo P' hh 34 [.v (.agg #[.bool an0, .string au0, .string ad0, .bool an1, .string au1, .string ad1, .bool an2, .string au2, .string ad2, .bool an3, .string au3, .string ad3]), .v (.agg #[.bool bn0, .string bu0, .string bd0, .bool bn1, .string bu1, .string bd1, .bool bn2, .string bu2, .string bd2, .bool bn3, .string bu3, .string bd3])] K := by
  refine CallTo.con hP hE (yjoin_q ha hb h) ⟨rfl, rfl, trivial⟩ ?_
  have := hk _ rfl (ha.bd.join hb.bd ha.a.x.b.pos).is rfl rfl (ha.bd.join hb.bd ha.a.x.b.pos).is.a (ha.bd.join hb.bd ha.a.x.b.pos).is.b (ha.bd.join hb.bd ha.a.x.b.pos).is.a.x (ha.bd.join hb.bd ha.a.x.b.pos).is.a.y (ha.bd.join hb.bd ha.a.x.b.pos).is.b.x (ha.bd.join hb.bd ha.a.x.b.pos).is.b.y _ rfl
  simp only [outV, outW, List.append_nil]
  exact this
theorem yjoin_p {a : Sg} {S : Sq} {k : Nat} {b : Sg} {T : Sq} (ha : IsS k a S) (hb : IsS k b T) (h : 40 * k + 40 ≤ 134217728) : ∃ (r0 : Sg) (r1 : Int), r0 = crS (joinS S T) ∧ IsS (k) r0 (joinS S T) ∧ r1 = joinE S T ∧ Con Tryz.prog 34 [.v a.v, .v b.v] (.v (.tuple #[r0.v, .int .i64 r1])) := ⟨_, _, rfl, (ha.bd.join hb.bd ha.a.x.b.pos).is, rfl, yjoin_q ha hb h⟩
theorem sjoin_q {a : Sg} {S : Sq} {k : Nat} {b : Sg} {T : Sq} (ha : IsS k a S) (hb : IsS k b T) (h : 40 * k + 40 ≤ 134217728) : Con Tryz.prog 33 [.v a.v, .v b.v] (.v (.tuple #[(crS (joinS S T)).v, .int .i64 (joinE S T)])) := by
  obtain ⟨⟨⟨an0, au0, ad0⟩, ⟨an1, au1, ad1⟩⟩, ⟨⟨an2, au2, ad2⟩, ⟨an3, au3, ad3⟩⟩⟩ := a
  have haa : IsP k ⟨⟨an0, au0, ad0⟩, ⟨an1, au1, ad1⟩⟩ S.a := ha.a
  have hab : IsP k ⟨⟨an2, au2, ad2⟩, ⟨an3, au3, ad3⟩⟩ S.b := ha.b
  have haax : Is k ⟨an0, au0, ad0⟩ S.a.x := ha.a.x
  have haay : Is k ⟨an1, au1, ad1⟩ S.a.y := ha.a.y
  have habx : Is k ⟨an2, au2, ad2⟩ S.b.x := ha.b.x
  have haby : Is k ⟨an3, au3, ad3⟩ S.b.y := ha.b.y
  obtain ⟨⟨⟨bn0, bu0, bd0⟩, ⟨bn1, bu1, bd1⟩⟩, ⟨⟨bn2, bu2, bd2⟩, ⟨bn3, bu3, bd3⟩⟩⟩ := b
  have hba : IsP k ⟨⟨bn0, bu0, bd0⟩, ⟨bn1, bu1, bd1⟩⟩ T.a := hb.a
  have hbb : IsP k ⟨⟨bn2, bu2, bd2⟩, ⟨bn3, bu3, bd3⟩⟩ T.b := hb.b
  have hbax : Is k ⟨bn0, bu0, bd0⟩ T.a.x := hb.a.x
  have hbay : Is k ⟨bn1, bu1, bd1⟩ T.a.y := hb.a.y
  have hbbx : Is k ⟨bn2, bu2, bd2⟩ T.b.x := hb.b.x
  have hbby : Is k ⟨bn3, bu3, bd3⟩ T.b.y := hb.b.y
  obtain ⟨r0, e0⟩ : ∃ r, r = crS (joinS S T) := ⟨_, rfl⟩
  rw [← e0]
  obtain ⟨r1, e1⟩ : ∃ r, r = joinE S T := ⟨_, rfl⟩
  rw [← e1]
  obtain ⟨os, eos, hos, kos⟩ := sord_p ha (by omega)
  obtain ⟨ot, eot, hot, kot⟩ := sord_p hb (by omega)
  have hosa : IsP k os.a (ordS S).a := hos.a
  have hosb : IsP k os.b (ordS S).b := hos.b
  have hota : IsP k ot.a (ordS T).a := hot.a
  have hotb : IsP k ot.b (ordS T).b := hot.b
  obtain ⟨a, eaa, haa1, kaa⟩ := les_p hosa (by rw [eos]; rfl) hota (by rw [eot]; rfl) (by omega)
  obtain ⟨b, ebb, hbb1, kbb⟩ := grt_p hosb (by rw [eos]; rfl) hotb (by rw [eot]; rfl) (by omega)
  obtain ⟨w, ew, kw⟩ := wrong_p ha hb (by omega)
  obtain ⟨m, mb, em, hm, emb, km⟩ := meet0_p ha hb (by omega)
  have fin : ∀ i, joinE S T = i → r1 = i ∧ r0 = if i = 0 then ⟨a, b⟩ else crS Sq.zero := by
    intro i hi
    rw [e0, e1, joinS, hi, eaa, ebb]
    refine ⟨rfl, ?_⟩
    split
    · rfl
    · rfl
  have q12 : w = true → joinE S T = 12 := by
    intro h
    rw [joinE, if_pos (ew ▸ h)]
  have q9 : w = false → (orQ S.a S.b T.a ≠ 0 ∨ orQ S.a S.b T.b ≠ 0) → joinE S T = 9 := by
    intro h1 h
    rw [joinE, if_neg (by rw [← ew, h1]; decide), if_pos h]
  have q0 : w = false → ¬ (orQ S.a S.b T.a ≠ 0 ∨ orQ S.a S.b T.b ≠ 0) → joinE S T = if mb = true then 0 else 11 := by
    intro h1 h
    rw [joinE, if_neg (by rw [← ew, h1]; decide), if_neg h, ← emb]
  clear e0 e1 ew em emb
  refine Con.of ttOk mixed Tryz.func33 { ord := [(8, [0, 2, 1, 3, 4, 5]), (9, [0, 1, 2, 3, 5, 6, 7, 8, 4, 9, 10, 11, 12])] } .nil 0 (by kernel_rfl) (fun P' E hP hE => ?_)
  cbv
  refine CallTo.w hP hE kw ⟨rfl, rfl, trivial⟩ ?_
  cbv
  refine fork.mk ?_ ?_
  · intro g1
    have q := fin 12 (q12 g1)
    cbv
    rw [q.1, q.2]
    show _ = Value.tuple #[(crS Sq.zero).v, _]
    rw [crS_zero]
  · intro g1
    have q9 := q9 g1
    have q0 := q0 g1
    clear q12 g1
    cbv
    refine orient_c hP hE ha.a ha.b hb.a (by omega) ?_
    intro m3 em3
    cbv
    have no9 : m3 ≠ 0 → _ := fun h => fin 9 (q9 (.inl (em3 ▸ h)))
    refine fork.mk ?_ ?_
    · intro g3
      have q := no9 (by subst hE; exact of_decide_eq_true (show decide (m3 ≠ 0) = true from by simpa [Env.std] using g3))
      cbv
      rw [q.1, q.2]
      show _ = Value.tuple #[(crS Sq.zero).v, _]
      rw [crS_zero]
    · intro g3
      have g3 : m3 = 0 := by subst hE; simpa [Env.std] using g3
      cbv
      refine orient_c hP hE ha.a ha.b hb.b (by omega) ?_
      intro m4 em4
      cbv
      refine fork.mk ?_ ?_
      · intro g4
        have q := fin 9 (q9 (.inr (by rw [← em4]; subst hE; simpa [Env.std] using g4)))
        cbv
        rw [q.1, q.2]
        show _ = Value.tuple #[(crS Sq.zero).v, _]
        rw [crS_zero]
      · intro g4
        have g4 : m4 = 0 := by subst hE; simpa [Env.std] using g4
        have ho : ¬ (orQ S.a S.b T.a ≠ 0 ∨ orQ S.a S.b T.b ≠ 0) := by
          rw [← em3, ← em4]; omega
        have q0 := q0 ho
        clear q9 no9 ho em3 em4 g3 g4
        cbv
        refine CallTo.w hP hE km ⟨rfl, rfl, trivial⟩ ?_
        cbv
        refine fork.mk ?_ ?_
        · intro g5
          have g5 : mb = false := by subst hE; simpa [Env.std] using g5
          have q := fin 11 (by rw [q0, g5]; rfl)
          cbv
          rw [q.1, q.2]
          show _ = Value.tuple #[(crS Sq.zero).v, _]
          rw [crS_zero]
        · intro g5
          have g5 : mb = true := by subst hE; simpa [Env.std] using g5
          have q := fin 0 (by rw [q0, g5]; rfl)
          rw [q.1, q.2, if_pos rfl]
          clear q fin q0
          cbv
          refine CallTo.w hP hE kos ⟨rfl, trivial⟩ ?_
          cbv
          refine CallTo.w hP hE kot ⟨rfl, trivial⟩ ?_
          cbv
          try refine DrawTo.run ?_
          try cbv
          repeat' first
            | exact True.intro
            | (refine Both.mk ?_ ?_ <;> cbv)
            | (refine CallTo.w hP hE kaa ⟨rfl, rfl, trivial⟩ ?_; cbv)
            | (refine CallTo.w hP hE kbb ⟨rfl, rfl, trivial⟩ ?_; cbv)
            | (simp only [and_self]; done)
theorem sjoin_c {P' : Program} {E : Env} (hP : P' = Tryz.prog) (hE : E = Env.std) {hh : List Blk} {K : AV → List Blk → Prop} {an0 an1 an2 an3 : Bool} {au0 ad0 au1 ad1 au2 ad2 au3 ad3 : ByteArray} {S : Sq} {k : Nat} {bn0 bn1 bn2 bn3 : Bool} {bu0 bd0 bu1 bd1 bu2 bd2 bu3 bd3 : ByteArray} {T : Sq} (ha : IsS k ⟨⟨⟨an0, au0, ad0⟩, ⟨an1, au1, ad1⟩⟩, ⟨⟨an2, au2, ad2⟩, ⟨an3, au3, ad3⟩⟩⟩ S) (hb : IsS k ⟨⟨⟨bn0, bu0, bd0⟩, ⟨bn1, bu1, bd1⟩⟩, ⟨⟨bn2, bu2, bd2⟩, ⟨bn3, bu3, bd3⟩⟩⟩ T) (h : 40 * k + 40 ≤ 134217728) (hk : ∀ r0 : Sg, r0 = crS (joinS S T) → IsS (k) r0 (joinS S T) → r0.a = crP (joinS S T).a → r0.b = crP (joinS S T).b → IsP (k) r0.a (joinS S T).a → IsP (k) r0.b (joinS S T).b → Is (k) r0.a.x (joinS S T).a.x → Is (k) r0.a.y (joinS S T).a.y → Is (k) r0.b.x (joinS S T).b.x → Is (k) r0.b.y (joinS S T).b.y → ∀ r1 : Int, r1 = joinE S T → K (.v (.tuple #[r0.v, .int .i64 r1])) hh) : CallTo P' hh 33 [.v (.agg #[.bool an0, .string au0, .string ad0, .bool an1, .string au1, .string ad1, .bool an2, .string au2, .string ad2, .bool an3, .string au3, .string ad3]), .v (.agg #[.bool bn0, .string bu0, .string bd0, .bool bn1, .string bu1, .string bd1, .bool bn2, .string bu2, .string bd2, .bool bn3, .string bu3, .string bd3])] K := by
  refine CallTo.con hP hE (sjoin_q ha hb h) ⟨rfl, rfl, trivial⟩ ?_
  have := hk _ rfl (ha.bd.join hb.bd ha.a.x.b.pos).is rfl rfl (ha.bd.join hb.bd ha.a.x.b.pos).is.a (ha.bd.join hb.bd ha.a.x.b.pos).is.b (ha.bd.join hb.bd ha.a.x.b.pos).is.a.x (ha.bd.join hb.bd ha.a.x.b.pos).is.a.y (ha.bd.join hb.bd ha.a.x.b.pos).is.b.x (ha.bd.join hb.bd ha.a.x.b.pos).is.b.y _ rfl
  simp only [outV, outW, List.append_nil]
  exact this
theorem sjoin_p {a : Sg} {S : Sq} {k : Nat} {b : Sg} {T : Sq} (ha : IsS k a S) (hb : IsS k b T) (h : 40 * k + 40 ≤ 134217728) : ∃ (r0 : Sg) (r1 : Int), r0 = crS (joinS S T) ∧ IsS (k) r0 (joinS S T) ∧ r1 = joinE S T ∧ Con Tryz.prog 33 [.v a.v, .v b.v] (.v (.tuple #[r0.v, .int .i64 r1])) := ⟨_, _, rfl, (ha.bd.join hb.bd ha.a.x.b.pos).is, rfl, sjoin_q ha hb h⟩
end Go.Proofs.YtfdealobplcboaaGreat.Sx
