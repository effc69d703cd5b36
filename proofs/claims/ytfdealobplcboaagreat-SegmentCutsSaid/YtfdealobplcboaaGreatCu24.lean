/- Part 24 of what the statement needs: an executor of Go texts, arithmetic, and contracts of the functions that are called. -/
import Derived.Test.YtfdealobplcboaaGreatCu14
import Derived.Test.YtfdealobplcboaaGreatCu23
set_option linter.unusedVariables false
set_option linter.unusedSimpArgs false
set_option maxRecDepth 100000
set_option maxHeartbeats 8000000
namespace Go.Proofs.YtfdealobplcboaaGreat.Sx
theorem split_ok : InlOk Tryz.prog [(152, Tryz.f152, {}), (199, Tryz.f199, { ord := [(17, [0, 1, 2, 3, 4, 5, 6, 7, 8, 9, 10, 11, 12, 13, 14, 15, 16])], un := [(2, 1)] }), (225, Tryz.f225, { ord := [(4, [0, 1, 2, 3, 4, 5, 6, 7, 8, 9, 10, 11, 12, 13, 14, 15, 16]), (6, [0, 1, 2, 3, 4, 5, 6, 7, 8, 9, 10, 11, 12, 13, 14, 15, 16, 17])] }), (121, Tryz.f121, { ord := [(3, [0, 1, 2, 3, 4, 5, 6, 7, 8, 9, 10, 11, 12, 13, 14, 15])] }), (153, Tryz.f153, { ord := [(6, [0, 1, 2, 3, 4, 5, 6, 7, 8, 9]), (11, [0, 1, 2, 3, 4, 5, 6, 7, 8, 9])] })] :=
 InlOk.cons Tryz.func152 (by kernel_rfl) (InlOk.cons Tryz.func199 (by kernel_rfl) (InlOk.cons Tryz.func225 (by kernel_rfl) (InlOk.cons Tryz.func121 (by kernel_rfl) (InlOk.cons Tryz.func153 (by kernel_rfl) .nil))))
/-- What the first loop holds. -/
structure SplA (S : Sq) (qs : List Pq) (i L : Int) (xs : List Pt) : Prop where
 h0 : 0 <= i
 h1 : i <= qs.length
 eq : xs = (S.a :: S.b :: (qs.take i.toNat).filter (onQ S)).map crP
 len : L = xs.length
/-- What the loops of insertion sort hold. -/
structure SrtO (l1 : List Pq) (i : Int) (xs : List Pt) (l : List Pq) : Prop where
 h0 : 1 <= i
 h1 : i <= l1.length
 eq : xs = l.map crP
 so : SortO l1 l i.toNat
structure SrtJ (l1 : List Pq) (i j : Int) (xs : List Pt) (l : List Pq) : Prop where
 h0 : 0 <= j
 h1 : j <= i
 h2 : i < l1.length
 eq : xs = l.map crP
 so : SortJ l1 l i.toNat j.toNat
structure SrtE (l1 : List Pq) (u u' : Int) : Prop where
 fin : ∀ j zs l, SrtJ l1 u j zs l -> (j = 0 \/ ¬ cmpP (at' l j.toNat) (at' l (j - 1).toNat) < 0) -> SrtO l1 u' zs l
theorem SrtE.of (l1 : List Pq) {u u' : Int} (h : u' = u + 1) : SrtE l1 u u' := by
 refine ⟨fun j zs l hj hs => ?_⟩
 have h0 := hj.h0
 have h1 := hj.h1
 have h2 := hj.h2
 refine ⟨by omega, by omega, hj.eq, ?_⟩
 have e : u'.toNat = u.toNat + 1 := by omega
 have e2 : (j - 1).toNat = j.toNat - 1 := by omega
 rw [e]
 refine hj.so.stop (hs.elim (fun h => .inl (by omega)) fun h => .inr (by rw [<- e2]; exact h))
theorem SrtJ.step {l1 : List Pq} {u j : Int} {zs : List Pt} {l : List Pq} (h : SrtJ l1 u j zs l) (hj : 0 < j) (hc : cmpP (at' l j.toNat) (at' l (j - 1).toNat) < 0) (z : Pt) :
  SrtJ l1 u (j - 1) (Env.std.set Pt (Env.std.set Pt zs j (Env.std.get Pt zs (j - 1) z)) (j - 1) (Env.std.get Pt zs j z)) (swp l j.toNat (j - 1).toNat) := by
 have h1 := h.h1
 have h2 := h.h2
 have h3 := h.so.len
 have e2 : (j - 1).toNat = j.toNat - 1 := by omega
 refine ⟨by omega, by omega, h2, ?_, ?_⟩
 ·show (zs.set j.toNat (zs.getD (j - 1).toNat z)).set (j - 1).toNat (zs.getD j.toNat z) = _
  rw [h.eq, at_map (by omega), at_map (by omega)]
  unfold swp
  rw [List.map_set, List.map_set]
 ·rw [e2]; rw [e2] at hc
  exact h.so.step (by omega) hc
/-- What a round of the inner loop needs. -/
structure RndF (l1 : List Pq) (L u u' j : Int) (zs : List Pt) (l3 : List Pq) (mc : Int) (w1 w2 : Pt) (j' : Int) (zs' : List Pt) (l3' : List Pq) : Prop where
 in1 : 0 <= j /\ j < L
 in2 : 0 <= Env.std.ib .sub .i64 j 1 /\ Env.std.ib .sub .i64 j 1 < L
 g1 : Env.std.get Pt zs j z0 = w1
 g2 : Env.std.get Pt zs (Env.std.ib .sub .i64 j 1) z0 = w2
 con : Con Tryz.prog 21 [.v w1.v, .v w2.v] (.v (.int .i64 mc))
 row : Env.std.set Pt (Env.std.set Pt zs j (Env.std.get Pt zs (Env.std.ib .sub .i64 j 1) z0)) (Env.std.ib .sub .i64 j 1) (Env.std.get Pt zs j z0) = zs'
 jE : Env.std.ib .sub .i64 j 1 = j'
 mu : j'.toNat < j.toNat
 step : mc < 0 -> SrtJ l1 u j' zs' l3'
 stop : ¬ mc < 0 -> SrtO l1 u' zs l3
theorem rnd_ex {k : Nat} {l1 : List Pq} {L u u' j : Int} {zs : List Pt} {l3 : List Pq} (hk : 16 * k + 16 <= 134217728) (hall : ∀ q ∈ l1, IsP k (crP q) q) (hlen : L = l1.length) (h12 : l1.length <= 12) (hend : SrtE l1 u u') (hj : SrtJ l1 u j zs l3) (hjp : 0 < j) :
  ∃ mc w1 w2 j' zs' l3', RndF l1 L u u' j zs l3 mc w1 w2 j' zs' l3' := by
 have q1 := hj.h1
 have q2 := hj.h2
 have q3 := hj.so.len
 have hb1 : j.toNat < l3.length := by omega
 have hb2 : (j - 1).toNat < l3.length := by omega
 have hg1 : Env.std.get Pt zs j z0 = crP (at' l3 j.toNat) := by
  show zs.getD j.toNat _ = _
  rw [hj.eq, at_map hb1]
 have hg2 : Env.std.get Pt zs (j - 1) z0 = crP (at' l3 (j - 1).toNat) := by
  show zs.getD (j - 1).toNat _ = _
  rw [hj.eq, at_map hb2]
 have hjE : Env.std.ib .sub .i64 j 1 = j - 1 := by rw [s_sub, w64 (by omega) (by omega)]
 have hmem : ∀ i, i < l3.length -> at' l3 i ∈ l1 := fun i hi => (hj.so.mem _).1 (at_mem hi)
 obtain ⟨mc, emc, kmc⟩ := vcmp_p (hall _ (hmem _ hb1)) (hall _ (hmem _ hb2)) (by omega)
 refine ⟨mc, crP (at' l3 j.toNat), crP (at' l3 (j - 1).toNat), j - 1, _, swp l3 j.toNat (j - 1).toNat, ⟨⟨by omega, by omega⟩, by rw [hjE]; exact ⟨by omega, by omega⟩, hg1, by rw [hjE]; exact hg2, kmc, by rw [hjE], hjE, by omega, fun h => hj.step hjp (emc ▸ h) _, fun h => hend.fin j zs l3 hj (.inr (emc ▸ h))⟩⟩
theorem split_q {k : Nat} {s : Sg} {S : Sq} (hs : IsS k s S) (ps : List Pt) (hp : ∀ p ∈ ps, IsP k p p.q) (hk : 16 * k + 16 <= 134217728) (hn : ps.length <= 10 \/ 1000 < ps.length) (hl : ps.length <= 140737488355328) (hok : splitE S ps.length = 0) :
  Con Tryz.prog 68 [.v s.v, .ro cP ps] (.tup [.own 27 cS ((splitL S (ps.map Pt.q)).map crS), .v (.int .i64 (splitE S ps.length))]) := by
 obtain ⟨n, hn0⟩ : ∃ n : Int, n = ps.length := ⟨_, rfl⟩
 obtain ⟨i0, hi0⟩ : ∃ i : Int, i = 0 := ⟨_, rfl⟩
 obtain ⟨rs, hrs⟩ : ∃ l, l = (splitL S (ps.map Pt.q)).map crS := ⟨_, rfl⟩
 obtain ⟨re, hre⟩ : ∃ e, e = splitE S ps.length := ⟨_, rfl⟩
 obtain ⟨m1, em1, km1⟩ := schk_p hs (by omega)
 obtain ⟨a, ea, haa, kaa⟩ := canon_p hs.a (by omega)
 obtain ⟨b, eb, hbb, kbb⟩ := canon_p hs.b (by omega)
 rw [<- hrs, <- hre]
 obtain ⟨l0, hl0⟩ : ∃ i : Int, i = 2 := ⟨_, rfl⟩
 obtain ⟨mc0, emc0, kmc0⟩ := vcmp_p hs.a hs.b (by omega)
 obtain ⟨c, hcs⟩ : ∃ c, c = cutsL S (ps.map Pt.q) := ⟨_, rfl⟩
 obtain ⟨x0, hx0⟩ : ∃ l : List Pt, l = [a, b] := ⟨_, rfl⟩
 have hp0 : SplA S (ps.map Pt.q) i0 l0 x0 := ⟨by omega, by omega, by rw [hx0, hi0, ea, eb]; rfl, by rw [hx0, hl0]; rfl⟩
 refine Con.of ttWOk mixed Tryz.func68 { ord := [(5, [0, 1, 3, 4, 2, 5, 6, 7]), (20, [0, 1, 2, 3, 4, 5, 6, 7, 8, 9, 10, 11, 12, 13])] } split_ok 3 (by kernel_rfl) (fun P' E hP hE => ?_)
 cbv
 refine CallTo.w hP hE km1 ⟨rfl, trivial⟩ ?_
 cbv
 refine fork.mk ?_ ?_
 ·intro g1
  have h1 : m1 ≠ 0 := by subst hE; simpa [Env.std] using g1
  rw [em1] at h1
  exact absurd hok (by unfold splitE; rw [if_pos h1]; decide)
 ·intro g1
  cbv
  refine fork.mk ?_ ?_
  ·intro g2
   have h1 : m1 = 0 := by subst hE; simpa [Env.std] using g1
   have h2 : 1000 < ps.length := by
    have : (1000 : Int) < (ps.length : Int) := by subst hE; simpa [Env.std] using g2
    omega
   rw [em1] at h1
   exact absurd hok (by unfold splitE; rw [if_neg (by simp [h1]), if_pos h2]; decide)
  ·intro g2
   have hm1 : m1 = 0 := by subst hE; simpa [Env.std] using g1
   have hre0 : re = 0 := by
    have : ¬ (1000 < (ps.length : Int)) := by subst hE; simpa [Env.std] using g2
    rw [hre, splitE, if_neg (by rw [<- em1]; simp [hm1]), if_neg (by omega)]
   have hE0 : rs = (segsL (cutsL S (ps.map Pt.q))).map crS := by rw [hrs, splitL, List.length_map, <- hre, if_pos hre0]
   have hc2 : 2 <= c.length := by rw [hcs]; exact cuts_pos (by rw [<- em1]; exact hm1) _
   have hn10 : ps.length <= 10 := by
    have : ¬ (1000 < (ps.length : Int)) := by subst hE; simpa [Env.std] using g2
    omega
   cbv
   refine CallTo.w hP hE kaa ⟨rfl, trivial⟩ ?_
   cbv
   refine CallTo.w hP hE kbb ⟨rfl, trivial⟩ ?_
   cbv
   refine LoopTo.lit 6 3 2 cP [a, b] cP_ok rfl (by decide) rfl rfl rfl ?_
   refine LoopTo.by (ι := Int × Int × List Pt) (fun x => [(26, .v (.int .i64 x.1)), (6, .s 4 x.2.1)]) (fun x => [(4, .row true 25 cP x.2.2)]) (fun x => SplA S (ps.map Pt.q) x.1 x.2.1 x.2.2) (fun x => (n - x.1).toNat) (i0, l0, x0) [] hp0 ?_ ?_
   ·cbv
    subst hE
    and_intros
    all_goals first
     | exact True.intro
     | exact Sm.of hx0.symm
     | rfl
     | (simp [hl0]; done)
     | (simp [hi0]; done)
     | fail
   ·rintro ⟨i, L, xs⟩ hi
    have h0 : 0 <= i := hi.h0
    have h1 : i <= n := by
     have hn0 : n = (ps.length : Int) := hn0
     have := hi.h1
     simp at this
     omega
    have hrow : xs = (S.a :: S.b :: ((ps.map Pt.q).take i.toNat).filter (onQ S)).map crP := hi.eq
    have hL : L = xs.length := hi.len
    clear hi hp0
    cbv
    refine fork.mk ?_ ?_
    ·intro g3
     have hn0 : n = (ps.length : Int) := hn0
     have hL : L = (xs.length : Int) := hL
     have hlt : i < (ps.length : Int) := by subst hE; simpa [Env.std] using g3
     have hpos : i.toNat < ps.length := by omega
     refine exVar (ps.getD i.toNat ⟨⟨false, ⟨#[]⟩, ⟨#[]⟩⟩, ⟨false, ⟨#[]⟩, ⟨#[]⟩⟩⟩) ?_
     intro p hpe
     have hget : Env.std.get Pt ps i ⟨⟨false, ⟨#[]⟩, ⟨#[]⟩⟩, ⟨false, ⟨#[]⟩, ⟨#[]⟩⟩⟩ = p := hpe.symm
     have hin : 0 <= i /\ i < (ps.length : Int) := ⟨h0, by omega⟩
     have hpe2 : p = ps[i.toNat] := by rw [hpe, List.getD_eq_getElem?_getD, List.getElem?_eq_getElem hpos]; rfl
     have hpm : IsP k p p.q := hp p (by rw [hpe2]; exact List.getElem_mem hpos)
     obtain ⟨v, ev, kv⟩ := son_p hs hpm (by omega)
     obtain ⟨c, ec, hc, kc⟩ := canon_p hpm (by omega)
     have htake : (ps.map Pt.q).take (i.toNat + 1) = (ps.map Pt.q).take i.toNat ++ [p.q] := by
      rw [List.take_add_one, List.getElem?_map, List.getElem?_eq_getElem hpos, hpe2]; rfl
     clear hpe hpe2 hpos
     have hLb : xs.length <= 12 := by
      have h5 := List.length_filter_le (onQ S) ((ps.map Pt.q).take i.toNat)
      have h6 : ((ps.map Pt.q).take i.toNat).length <= ps.length := by simp; omega
      rw [hrow]; simp only [List.length_map, List.length_cons]; omega
     obtain ⟨j, hj⟩ : ∃ j, j = i + 1 := ⟨_, rfl⟩
     obtain ⟨L', hL'⟩ : ∃ j, j = L + 1 := ⟨_, rfl⟩
     obtain ⟨xs', hxs'⟩ : ∃ l, l = xs ++ [c] := ⟨_, rfl⟩
     have ej : j.toNat = i.toNat + 1 := by omega
     have r1 : onQ S p.q = true -> SplA S (ps.map Pt.q) j L' xs' := fun h => ⟨by omega, by rw [List.length_map]; omega, by rw [ej, htake, List.filter_append, hxs', hrow, ec]; simp [h], by rw [hxs', hL', hL]; simp⟩
     have r2 : onQ S p.q = false -> SplA S (ps.map Pt.q) j L xs := fun h => ⟨by omega, by rw [List.length_map]; omega, by rw [ej, htake, List.filter_append, hrow]; simp [h], hL⟩
     have hmu : (n - j).toNat < (n - i).toNat := by omega
     rw [<- ev] at r1 r2
     have hxE : Env.std.app Pt (Env.std.tk Pt xs L) [c] = xs' := by rw [hxs', s_app, s_tk, List.take_of_length_le (by omega)]
     have hfit : Env.std.fits (Env.std.ad L (Env.std.len Pt [c])) 80 := by show Env.std.fits (L + 1) 80; rw [s_fits]; omega
     have hjE : Env.std.ib .add .i64 i 1 = j := by rw [s_add, w64 (by omega) (by omega), hj]
     have hLE : Env.std.ad L (Env.std.len Pt [c]) = L' := hL'.symm
     clear hrow hL htake hj hL' hxs' hLb ej ev ec h1 hlt hn10 hl hn hn0
     cbv
     refine Need.mk (by subst hE; exact hin) ?_
     cbv
     refine CallTo.w hP hE kv ⟨rfl, (by subst hE; exact congrArg (fun p : Pt => p.v) hget), trivial⟩ ?_
     cbv
     refine fork.mk ?_ ?_
     ·intro g4
      cbv
      refine CallTo.w hP hE kc ⟨(by subst hE; exact congrArg (fun p : Pt => p.v) hget), trivial⟩ ?_
      cbv
      refine Need.mk (by subst hE; exact hfit) ?_
      cbv
      refine ⟨(j, L', xs'), [0, 1, 2, 3, 7], r1 g4, hmu, ?_⟩
      cbv
      subst hE
      and_intros
      all_goals first
       | exact True.intro
       | exact Sm.of hxE
       | rfl
       | exact congrArg (fun x => AV.v (Value.int .i64 x)) hjE
       | exact congrArg (fun x => Value.int .i64 x) hjE
       | exact congrArg (fun x => AV.s 7 x) hLE
       | (simp; done)
     ·intro g4
      cbv
      refine ⟨(j, L, xs), [], r2 g4, hmu, ?_⟩
      cbv
      subst hE
      and_intros
      all_goals first
       | exact True.intro
       | rfl
       | exact congrArg (fun x => AV.v (Value.int .i64 x)) hjE
       | exact congrArg (fun x => Value.int .i64 x) hjE
       | (simp; done)
    ·intro g3
     have hL : L = (xs.length : Int) := hL
     have hn0 : n = (ps.length : Int) := hn0
     have hge : ¬ i < (ps.length : Int) := by subst hE; simpa [Env.std] using g3
     obtain ⟨l1, hl1⟩ : ∃ l, l = S.a :: S.b :: (ps.map Pt.q).filter (onQ S) := ⟨_, rfl⟩
     have hrow : xs = l1.map crP := by rw [hrow, hl1, List.take_of_length_le (by rw [List.length_map]; omega)]
     have hlen : L = (l1.length : Int) := by rw [hL, hrow, List.length_map]
     have hle12 : l1.length <= 12 := by
      have h5 := List.length_filter_le (onQ S) (ps.map Pt.q)
      rw [List.length_map] at h5
      rw [hl1]; simp only [List.length_cons]; omega
     have hge2 : 2 <= l1.length := by rw [hl1]; simp only [List.length_cons]; omega
     have hall : ∀ q ∈ l1, IsP k (crP q) q := by
      intro q hq
      have : BdP k q := by
       rw [hl1] at hq
       rcases List.mem_cons.1 hq with e | e
       ·rw [e]; exact hs.a.b
       ·rcases List.mem_cons.1 e with e | e
        ·rw [e]; exact hs.b.b
        ·obtain ⟨p, hp1, hp2⟩ := List.mem_map.1 (List.mem_filter.1 e).1
         rw [<- hp2]; exact (hp p hp1).b
      exact this.is
     obtain ⟨nb, hnb⟩ := isLen_ex (x := L) (by omega) (by omega)
     have kb := bitsLen_con L nb (by omega) (by omega) hnb
     obtain ⟨nbI, hnbI⟩ : ∃ x : Int, x = nb := ⟨_, rfl⟩
     rw [<- hnbI] at kb
     have hcv : Env.std.cv .u64 L = L := by rw [s_cv, IntKind.wrap_u64]; omega
     have h12 : Env.std.ic .leq (Env.std.ib .sub .i64 L 0) 12 = true := by
      rw [s_sub, w64 (by omega) (by omega), s_leq]; exact decide_eq_true (by omega)
     obtain ⟨u0, hu0⟩ : ∃ u : Int, u = 1 := ⟨_, rfl⟩
     have hs0 : SrtO l1 u0 xs l1 := ⟨by omega, by omega, hrow, by rw [hu0]; exact SortO.first l1⟩
     clear h0 h1 hn0 hge hn10 hl hn hrow hnb g3 hnbI
     cbv
     refine CallTo.w hP hE kb ⟨by subst hE; exact congrArg (Value.int .u64) hcv, trivial⟩ ?_
     cbv
     refine fork.mk (fun _ => ?_) (fun e => absurd ((by subst hE; exact h12 : _ = true).symm.trans e) (by decide))
     clear h12 hcv kb
     cbv
     refine LoopTo.by (ι := Int × List Pt × List Pq) (fun x => [(8, .v (.int .i64 x.1))]) (fun x => [(4, .row true 25 cP x.2.1)]) (fun x => SrtO l1 x.1 x.2.1 x.2.2) (fun x => (L - x.1).toNat) (u0, xs, l1) [] hs0 ?_ ?_
     ·cbv
      subst hE
      and_intros
      all_goals first
       | exact True.intro
       | rfl
       | (simp [hu0]; done)
       | (simp [hu0, Env.std]; done)
       | fail
     ·rintro ⟨u, ys, l2⟩ hu
      have hu1 : 1 <= u := hu.h0
      have hu2 : u <= l1.length := hu.h1
      have hys : ys = l2.map crP := hu.eq
      have hso : SortO l1 l2 u.toNat := hu.so
      clear hs0 hu
      cbv
      refine fork.mk ?_ ?_
      ·intro g4
       have hlen : L = (l1.length : Int) := hlen
       have hlt : u < L := by subst hE; simpa [Env.std] using g4
       have hj0 : SrtJ l1 u u ys l2 := ⟨by omega, by omega, by omega, hys, hso.start (by omega)⟩
       obtain ⟨u', hu'⟩ : ∃ x, x = u + 1 := ⟨_, rfl⟩
       have hmu : (L - u').toNat < (L - u).toNat := by omega
       have hend := SrtE.of l1 hu'
       have huE : Env.std.ib .add .i64 u 1 = u' := by rw [s_add, w64 (by omega) (by omega), hu']
       clear hys hso hu1 hlt hu' g4
       cbv
       refine LoopTo.by (ι := Int × List Pt × List Pq) (fun x => [(9, .v (.int .i64 x.1))]) (fun x => [(4, .row true 25 cP x.2.1)]) (fun x => SrtJ l1 u x.1 x.2.1 x.2.2) (fun x => x.1.toNat) (u, ys, l2) [] hj0 ?_ ?_
       ·cbv
        subst hE
        and_intros
        all_goals first
         | exact True.intro
         | rfl
         | (simp; done)
         | fail
       ·rintro ⟨j, zs, l3⟩ hj
        have hj : SrtJ l1 u j zs l3 := hj
        clear hj0
        cbv
        refine fork.mk ?_ ?_
        ·intro g5
         have hlen : L = (l1.length : Int) := hlen
         have hjp : 0 < j := by subst hE; simpa [Env.std] using g5
         refine Exists.elim (rnd_ex hk hall hlen hle12 hend hj hjp) ?_
         intro mc h
         refine Exists.elim h ?_
         intro w1 h
         refine Exists.elim h ?_
         intro w2 h
         refine Exists.elim h ?_
         intro j' h
         refine Exists.elim h ?_
         intro zs' h
         refine Exists.elim h ?_
         intro l3' hf
         have hin1 := hf.in1
         have hin2 := hf.in2
         have hg1 := hf.g1
         have hg2 := hf.g2
         have kmc := hf.con
         have hrowE := hf.row
         have hjE := hf.jE
         have hmj := hf.mu
         have hstep := hf.step
         have hstop := hf.stop
         clear hf h hj hend hjp g5
         cbv
         refine Need.mk (by subst hE; exact hin1) ?_
         cbv
         refine Need.mk (by subst hE; exact hin2) ?_
         cbv
         refine CallTo.w hP hE kmc ⟨(by subst hE; exact congrArg (fun p : Pt => p.v) hg1), (by subst hE; exact congrArg (fun p : Pt => p.v) hg2), trivial⟩ ?_
         cbv
         refine fork.mk ?_ ?_
         ·intro g6
          have hst := hstep (by subst hE; exact of_decide_eq_true (show decide (mc < 0) = true from g6))
          cbv
          repeat' first
           | (refine Need.mk (by subst hE; exact hin1) ?_; cbv)
           | (refine Need.mk (by subst hE; exact hin2) ?_; cbv)
          refine ⟨(j', zs', l3'), [], hst, hmj, ?_⟩
          cbv
          subst hE
          and_intros
          all_goals first
           | exact True.intro
           | rfl
           | exact Sm.of hrowE
           | exact congrArg (fun x => AV.v (Value.int .i64 x)) hjE
           | exact congrArg (fun x => Value.int .i64 x) hjE
           | (simp; done)
         ·intro g6
          have hst := hstop (by subst hE; exact of_decide_eq_false (show decide (mc < 0) = false from g6))
          cbv
          refine ⟨(u', zs, l3), [], hst, hmu, ?_⟩
          cbv
          subst hE
          and_intros
          all_goals first
           | exact True.intro
           | rfl
           | exact congrArg (fun x => AV.v (Value.int .i64 x)) huE
           | exact congrArg (fun x => Value.int .i64 x) huE
           | (simp; done)
        ·intro g5
         have hlen : L = (l1.length : Int) := hlen
         have hjp : ¬ 0 < j := by subst hE; simpa [Env.std] using g5
         have hj0 : j = 0 := by have := hj.h0; omega
         have hst := hend.fin j zs l3 hj (.inl hj0)
         clear hj hend hjp g5 hj0
         cbv
         refine ⟨(u', zs, l3), [], hst, hmu, ?_⟩
         cbv
         subst hE
         and_intros
         all_goals first
          | exact True.intro
          | rfl
          | exact congrArg (fun x => AV.v (Value.int .i64 x)) huE
          | exact congrArg (fun x => Value.int .i64 x) huE
          | (simp; done)
      ·intro g4
       have hlen : L = (l1.length : Int) := hlen
       have hge : ¬ u < L := by subst hE; simpa [Env.std] using g4
       have hws : WS l2 := hso.done (by omega)
       have hl2 : l2.length = l1.length := hso.len
       have hset : setL l1 = setL l2 := setL_perm (fun x => (hso.mem x).symm)
       clear hso hu1 hu2 g4 hge
       cbv
       refine CallTo.w hP hE kmc0 ⟨rfl, rfl, trivial⟩ ?_
       cbv
       refine fork.mk ?_ ?_
       ·intro g7
        have hpos : 0 < mc0 := by subst hE; simpa [Env.std] using g7
        have hl3 : L = (l2.length : Int) := (hlen : L = (l1.length : Int)).trans (congrArg (fun x : Nat => (x : Int)) hl2.symm)
        have hl12 : l2.length <= 12 := by rw [hl2]; exact hle12
        have hl22 : 2 <= l2.length := by rw [hl2]; exact hge2
        obtain ⟨l3, hl3e⟩ : ∃ l, l = l2.reverse := ⟨_, rfl⟩
        have hdd : dd l3 = c := by rw [hl3e, hcs, cutsL, if_pos (by rw [<- emc0]; exact hpos), <- hl1, hset]; rw [<- setL_perm (l := l2.reverse) (fun x => List.mem_reverse)]; exact dd_down (List.pairwise_reverse.2 hws)
        obtain ⟨j8, hj8⟩ : ∃ j : Int, j = L - 1 := ⟨_, rfl⟩
        obtain ⟨i8, hi8⟩ : ∃ j : Int, j = 0 := ⟨_, rfl⟩
        have hj8E : Env.std.ib .sub .i64 L 1 = j8 := by rw [s_sub, w64 (by omega) (by omega), hj8]
        have hR0 : RevP l2 i8 j8 ys l2 := ⟨by omega, hys, by
         have e : j8 = (l2.length : Int) - 1 := by omega
         rw [hi8, e]; exact RevI.first l2⟩
        cbv
        refine LoopTo.by (ι := Int × Int × List Pt × List Pq) (fun x => [(2, .v (.int .i64 x.1)), (3, .v (.int .i64 x.2.1))]) (fun x => [(4, .row true 25 cP x.2.2.1)]) (fun x => RevP l2 x.1 x.2.1 x.2.2.1 x.2.2.2) (fun x => (x.2.1 - x.1).toNat) (i8, j8, ys, l2) [] hR0 ?_ ?_
        ·cbv
         subst hE
         and_intros
         all_goals first
          | exact True.intro
          | rfl
          | exact congrArg (fun x => AV.v (Value.int .i64 x)) hi8.symm
          | exact congrArg (fun x => Value.int .i64 x) hi8.symm
          | exact congrArg (fun x => AV.v (Value.int .i64 x)) hj8E
          | exact congrArg (fun x => Value.int .i64 x) hj8E
          | (simp; done)
          | fail
        ·rintro ⟨i, j, ws, l4⟩ hi
         have hi : RevP l2 i j ws l4 := hi
         clear hR0
         cbv
         refine fork.mk ?_ ?_
         ·intro g8
          have hl3 : L = (l2.length : Int) := hl3
          have hlt : i < j := by subst hE; simpa [Env.std] using g8
          refine Exists.elim (revF_ex hl3 (by omega) hi hlt) ?_
          intro w1 h
          refine Exists.elim h ?_
          intro w2 h
          refine Exists.elim h ?_
          intro i' h
          refine Exists.elim h ?_
          intro j' h
          refine Exists.elim h ?_
          intro ws' h
          refine Exists.elim h ?_
          intro l4' hf
          have in1 := hf.in1
          have in2 := hf.in2
          have hrw : Env.std.set Pt (Env.std.set Pt ws i (Env.std.get Pt ws j z0)) j (Env.std.get Pt ws i z0) = ws' := by rw [hf.g1, hf.g2]; exact hf.row
          have hai := hf.add
          have haj := hf.sub
          have hinv := hf.inv
          have hmu := hf.mu
          clear hf h hi g8 hlt
          cbv
          refine Need.mk (by subst hE; exact in2) ?_
          cbv
          refine Need.mk (by subst hE; exact in1) ?_
          cbv
          refine Need.mk (by subst hE; exact in1) ?_
          cbv
          refine Need.mk (by subst hE; exact in2) ?_
          cbv
          refine ⟨(i', j', ws', l4'), [], hinv, hmu, ?_⟩
          cbv
          subst hE
          and_intros
          all_goals first
           | exact True.intro
           | rfl
           | exact congrArg (fun x => AV.v (Value.int .i64 x)) hai
           | exact congrArg (fun x => Value.int .i64 x) hai
           | exact congrArg (fun x => AV.v (Value.int .i64 x)) haj
           | exact congrArg (fun x => Value.int .i64 x) haj
           | exact Sm.of hrw
           | (simp; done)
           | fail
         ·intro g8
          have hl3 : L = (l2.length : Int) := hl3
          have hge : ¬ i < j := by subst hE; simpa [Env.std] using g8
          have hi0 := hi.h0
          have hws9 : ws = l3.map crP := by rw [hi.eq, hi.rv.done (by omega), hl3e]
          have hl3 : L = (l3.length : Int) := by rw [hl3e, List.length_reverse]; exact hl3
          have hl12 : l3.length <= 12 := by rw [hl3e, List.length_reverse]; exact hl12
          have hl22 : 2 <= l3.length := by rw [hl3e, List.length_reverse]; exact hl22
          clear hi g8 hge hws hys hset hl3e
          obtain ⟨k0, hk0⟩ : ∃ k : Int, k = 1 := ⟨_, rfl⟩
          have hA0 : 1 <= k0 /\ CmpA l3 k0.toNat := ⟨by omega, by rw [hk0]; exact CmpA.first (by omega)⟩
          have hL2 : Env.std.ic .lss L 2 = false := by rw [s_lss]; exact decide_eq_false (by omega)
          cbv
          refine fork.mk (fun e => absurd ((by subst hE; exact hL2 : _ = false).symm.trans e) (by decide)) (fun _ => ?_)
          cbv
          refine LoopTo.by (ι := Int) (fun x => [(3, .v (.int .i64 x))]) (fun x => []) (fun x => 1 <= x /\ CmpA l3 x.toNat) (fun x => (L - x).toNat) k0 [] hA0 ?_ ?_
          ·cbv
           subst hE
           and_intros
           all_goals first
            | exact True.intro
            | rfl
            | exact congrArg (fun x => AV.v (Value.int .i64 x)) hk0.symm
            | exact congrArg (fun x => Value.int .i64 x) hk0.symm
            | (simp; done)
            | fail
          ·intro q hq
           have hq1 : 1 <= q := hq.1
           have hq2 : CmpA l3 q.toNat := hq.2
           clear hq hA0
           cbv
           refine fork.mk ?_ ?_
           ·intro g8
            have hlt : q < L := by subst hE; simpa [Env.std] using g8
            have hl3 : L = (l3.length : Int) := hl3
            refine Exists.elim (cmpF_ex hws9 hl3 (by omega) hq1 hq2 hlt) ?_
            intro w1 h
            refine Exists.elim h ?_
            intro w2 h
            refine Exists.elim h ?_
            intro q1 h
            refine Exists.elim h ?_
            intro q' hf
            have in1 := hf.in1
            have hsub := hf.sub
            have in2 := hf.in2
            have g1 := hf.g1
            have g2 := hf.g2
            have hadd := hf.add
            have hyes := hf.yes
            have hno := hf.no
            have hmu := hf.mu
            clear hf h g8 hlt
            have in2' : 0 <= Env.std.ib .sub .i64 q 1 /\ Env.std.ib .sub .i64 q 1 < L := by rw [hsub]; exact in2
            have hw : Env.std.get Pt ws q z0 = Env.std.get Pt ws (Env.std.ib .sub .i64 q 1) z0 ↔ w1 = w2 := by rw [hsub, g1, g2]
            cbv
            refine Need.mk (by subst hE; exact in1) ?_
            cbv
            refine Need.mk (by subst hE; exact in2') ?_
            cbv
            refine fork.mk ?_ ?_
            ·intro g10
             have hB := hyes (hw.1 (by subst hE; exact (eqc_P _ _).1 g10))
             have hl3 : L = (l3.length : Int) := hl3
             have rq : Env.std.rng q L L := by rw [s_rng]; omega
             obtain ⟨M, hM⟩ : ∃ M, M = L - q := ⟨_, rfl⟩
             have hME : Env.std.sb L q = M := hM.symm
             obtain ⟨o0, ho0⟩ : ∃ o : Int, o = 1 := ⟨_, rfl⟩
             have hB0 : CmpP l3 q q o0 ws l3 := ⟨hq1, by omega, hws9, by
              have e : (q + o0).toNat = q.toNat + 1 := by omega
              rw [e]; exact hB⟩
             clear hB hyes hno hmu g10 hw
             cbv
             refine Need.mk (by subst hE; exact rq) ?_
             cbv
             refine LoopTo.by (ι := Int × Int × List Pt × List Pq) (fun x => [(3, .v (.int .i64 x.1)), (5, .v (.int .i64 x.2.1)), (4, .w 4 q M)]) (fun x => [(4, .row true 25 cP x.2.2.1)]) (fun x => CmpP l3 q x.1 x.2.1 x.2.2.1 x.2.2.2) (fun x => (M - x.2.1).toNat) (q, o0, ws, l3) [] hB0 ?_ ?_
             ·cbv
              subst hE
              and_intros
              all_goals first
               | exact True.intro
               | rfl
               | exact congrArg (fun x => AV.v (Value.int .i64 x)) ho0.symm
               | exact congrArg (fun x => Value.int .i64 x) ho0.symm
               | exact congrArg (fun x => AV.v (Value.int .i64 x)) hME
               | exact congrArg (fun x => Value.int .i64 x) hME
               | exact congrArg (fun x => AV.w 4 q x) hME
               | (simp; done)
               | fail
             ·rintro ⟨k', o', zs, x⟩ hi
              have hi : CmpP l3 q k' o' zs x := hi
              clear hB0
              cbv
              refine fork.mk ?_ ?_
              ·intro g11
               have hl3 : L = (l3.length : Int) := hl3
               have hlt : o' < M := by subst hE; simpa [Env.std] using g11
               refine Exists.elim (cmpG_ex (by omega) hl3 hM (by omega) hi hlt) ?_
               intro v1 h
               refine Exists.elim h ?_
               intro v2 h
               refine Exists.elim h ?_
               intro o1 h
               refine Exists.elim h ?_
               intro a0 h
               refine Exists.elim h ?_
               intro a1 h
               refine Exists.elim h ?_
               intro k2 h
               refine Exists.elim h ?_
               intro o2 h
               refine Exists.elim h ?_
               intro zs2 h
               refine Exists.elim h ?_
               intro x2 hf
               have in3 := hf.in1
               have in4 : 0 <= Env.std.ib .sub .i64 o' 1 /\ Env.std.ib .sub .i64 o' 1 < M := by rw [hf.sub]; exact hf.in2
               have in5 := hf.in3
               have hv : Env.std.get Pt zs (Env.std.ad q o') z0 = Env.std.get Pt zs (Env.std.ad q (Env.std.ib .sub .i64 o' 1)) z0 ↔ v1 = v2 := by rw [hf.sub, hf.ad0, hf.ad1, hf.g1, hf.g2]
               have hrw : Env.std.set Pt zs k' (Env.std.get Pt zs (Env.std.ad q o') z0) = zs2 := by rw [hf.ad0, hf.g1]; exact hf.row
               have hak := hf.addk
               have hao := hf.addo
               have hys2 := hf.yes
               have hno2 := hf.no
               have hmu2 := hf.mu
               clear hf h hi g11 hlt
               cbv
               refine Need.mk (by subst hE; exact in3) ?_
               cbv
               refine Need.mk (by subst hE; exact in4) ?_
               cbv
               refine fork.mk ?_ ?_
               ·intro g12
                have hst := hno2 (fun e => by
                 have e2 := hv.2 e
                 subst hE
                 have g12 : (!eqCells (Env.std.get Pt zs (Env.std.ad q o') z0).c (Env.std.get Pt zs (Env.std.ad q (Env.std.ib .sub .i64 o' 1)) z0).c) = true := g12
                 rw [(eqc_P _ _).2 e2] at g12; cases g12)
                clear hys2 hno2 hv
                cbv
                refine Need.mk (by subst hE; exact in3) ?_
                cbv
                refine Need.mk (by subst hE; exact in5) ?_
                cbv
                refine ⟨(k2, o2, zs2, x2), [], hst, hmu2, ?_⟩
                cbv
                subst hE
                and_intros
                all_goals first
                 | exact True.intro
                 | rfl
                 | exact congrArg (fun x => AV.v (Value.int .i64 x)) hak
                 | exact congrArg (fun x => Value.int .i64 x) hak
                 | exact congrArg (fun x => AV.v (Value.int .i64 x)) hao
                 | exact congrArg (fun x => Value.int .i64 x) hao
                 | exact Sm.of hrw
                 | (simp; done)
                 | fail
               ·intro g12
                have hst := hys2 (hv.1 (by
                 subst hE
                 have g12 : (!eqCells (Env.std.get Pt zs (Env.std.ad q o') z0).c (Env.std.get Pt zs (Env.std.ad q (Env.std.ib .sub .i64 o' 1)) z0).c) = false := g12
                 exact (eqc_P _ _).1 (by simpa using g12)))
                clear hys2 hno2 hv
                cbv
                refine ⟨(k', o2, zs, x), [], hst, hmu2, ?_⟩
                cbv
                subst hE
                and_intros
                all_goals first
                 | exact True.intro
                 | rfl
                 | exact congrArg (fun x => AV.v (Value.int .i64 x)) hao
                 | exact congrArg (fun x => Value.int .i64 x) hao
                 | (simp; done)
                 | fail
              ·intro g11
               have hl3 : L = (l3.length : Int) := hl3
               have hge : ¬ o' < M := by subst hE; simpa [Env.std] using g11
               have hk1 := hi.h0
               have hbb := hi.b
               have hno3 : ¬ (q + o').toNat < l3.length := by omega
               have hke := cmp_end hbb hno3 hdd
               have hx := hi.eq
               have hlt2 := hbb.lt
               have hle2 := hbb.le
               have hlen2 := hbb.len
               have hzl : zs.length = l3.length := by rw [hx, List.length_map, hlen2]
               have r2 : Env.std.rng k' L L := by rw [s_rng]; omega
               have r3 : Env.std.ad k' (Env.std.sb L k') = Env.std.len Pt zs := by show k' + (L - k') = (zs.length : Int); omega
               have r4 : Env.std.rng 0 k' L := by rw [s_rng]; omega
               have hc12 : c.length <= 4096 := by omega
               clear hi g11 hge
               cbv
               refine Need.mk (by subst hE; exact r2) ?_
               cbv
               refine Need.mk (by subst hE; first | exact ⟨rfl, r3⟩ | exact r3) ?_
               cbv
               refine Need.mk (by subst hE; exact r4) ?_
               have hz0 : ∀ i, i < c.length -> (Env.std.app Pt (Env.std.tk Pt zs k') (Env.std.rep Pt (Env.std.sb L k') z0)).getD i z0 = crP (at' c i) := by rw [hx]; exact cmp_get hbb hno3 hdd
               obtain ⟨zz, hzz⟩ : ∃ z, z = Env.std.app Pt (Env.std.tk Pt zs k') (Env.std.rep Pt (Env.std.sb L k') z0) := ⟨_, rfl⟩
               rw [<- hzz] at hz0
               have hKc : k' = (c.length : Int) := by omega
               have r1 : Env.std.rng 1 k' k' := by rw [s_rng]; omega
               obtain ⟨n1, hn1⟩ : ∃ x : Int, x = k' - 1 := ⟨_, rfl⟩
               have hn1E : Env.std.sb k' 1 = n1 := hn1.symm
               obtain ⟨i9, hi9⟩ : ∃ i : Int, i = 0 := ⟨_, rfl⟩
               obtain ⟨l9, hl9⟩ : ∃ i : Int, i = 0 := ⟨_, rfl⟩
               obtain ⟨o9, ho9⟩ : ∃ l : List Sg, l = [] := ⟨_, rfl⟩
               have hf0 : FinI c i9 l9 o9 := FinI.first (by omega) hi9 hl9 ho9
               have hres : ∀ i Lo out, FinI c i Lo out -> ¬ i < n1 -> out = rs /\ Lo = (rs.length : Int) := fun i Lo out h hn => h.done hcs hE0 (by omega)
               have hrnd : ∀ i Lo out, FinI c i Lo out -> i < n1 -> ∃ j w1 w2 Lo' out', FinF c zz k' i Lo out j w1 w2 Lo' out' := fun i Lo out h hn => finF_ex hz0 hKc hc12 h (by omega)
               cbv
               refine Need.mk (by subst hE; exact r1) ?_
               cbv
               refine LoopTo.nil 9 27 cS cS_ok rfl ?_
               refine LoopTo.by (ι := Int × Int × List Sg) (fun x => [(54, .v (.int .i64 x.1)), (53, .v (.int .i64 n1)), (9, .s 5 x.2.1)]) (fun x => [(4, .row true 25 cP zz), (5, .row true 27 cS x.2.2)]) (fun x => FinI c x.1 x.2.1 x.2.2) (fun x => (n1 - x.1).toNat) (i9, l9, o9) [] hf0 ?_ ?_
               ·cbv
                subst hE
                and_intros
                all_goals first
                 | exact True.intro
                 | rfl
                 | exact congrArg (fun x => AV.v (Value.int .i64 x)) hi9.symm
                 | exact congrArg (fun x => Value.int .i64 x) hi9.symm
                 | exact congrArg (fun x => AV.v (Value.int .i64 x)) hn1E
                 | exact congrArg (fun x => Value.int .i64 x) hn1E
                 | exact congrArg (fun x => AV.v (Value.int .i64 x)) hn1E.symm
                 | exact congrArg (fun x => Value.int .i64 x) hn1E.symm
                 | exact Sm.of ho9.symm
                 | exact Sm.of hzz.symm
                 | exact congrArg (fun x => AV.s 5 x) hl9.symm
                 | (simp; done)
                 | fail
               ·rintro ⟨i, Lo, out⟩ hi
                have hi : FinI c i Lo out := hi
                clear hf0
                cbv
                refine fork.mk ?_ ?_
                ·intro g9
                 have hlt : i < n1 := by subst hE; simpa [Env.std] using g9
                 refine Exists.elim (hrnd i Lo out hi hlt) ?_
                 intro j h
                 refine Exists.elim h ?_
                 intro w1 h
                 refine Exists.elim h ?_
                 intro w2 h
                 refine Exists.elim h ?_
                 intro Lo' h
                 refine Exists.elim h ?_
                 intro out' hf
                 have in1 := hf.in1
                 have hadd := hf.add
                 have in2 : 0 <= Env.std.ib .add .i64 i 1 /\ Env.std.ib .add .i64 i 1 < k' := by rw [hadd]; exact hf.in2
                 have happ : Env.std.app Sg (Env.std.tk Sg out Lo) [⟨Env.std.get Pt zz i z0, Env.std.get Pt zz (Env.std.ib .add .i64 i 1) z0⟩] = out' := by rw [hadd, hf.g1, hf.g2]; exact hf.app
                 have hfit := hf.fit
                 have hlen9 := hf.len
                 have hinv := hf.inv
                 have hmu := hf.mu n1 hlt
                 clear hf h hlt g9
                 cbv
                 refine Need.mk (by subst hE; exact in1) ?_
                 cbv
                 refine Need.mk (by subst hE; exact in2) ?_
                 cbv
                 refine Need.mk (by subst hE; exact hfit) ?_
                 cbv
                 refine ⟨(j, Lo', out'), [0, 1, 2, 3, 4, 7], hinv, hmu, ?_⟩
                 cbv
                 subst hE
                 and_intros
                 all_goals first
                  | exact True.intro
                  | rfl
                  | exact congrArg (fun x => AV.v (Value.int .i64 x)) hadd
                  | exact congrArg (fun x => Value.int .i64 x) hadd
                  | exact congrArg (fun x => AV.v (Value.int .i64 x)) hlen9
                  | exact congrArg (fun x => Value.int .i64 x) hlen9
                  | exact Sm.of happ
                  | exact congrArg (fun x => AV.s 7 x) hlen9
                  | (simp; done)
                  | fail
                ·intro g9
                 have hge : ¬ i < n1 := by subst hE; simpa [Env.std] using g9
                 have hr := hres i Lo out hi hge
                 have hr1 : out = rs := hr.1
                 have hr2 : Lo = (rs.length : Int) := hr.2
                 have htk : Env.std.tk Sg out Lo = out := by rw [s_tk, hr1, hr2]; exact List.take_of_length_le (by omega)
                 clear hr hr2
                 subst hr1 hre0
                 cbv
                 subst hE
                 exact ⟨Sm.of htk, trivial⟩
            ·intro g10
             have hst := hno (fun e => by
              have e2 := hw.2 e
              subst hE
              have g10 : eqCells (Env.std.get Pt ws q z0).c (Env.std.get Pt ws (Env.std.ib .sub .i64 q 1) z0).c = false := g10
              rw [(eqc_P _ _).2 e2] at g10; cases g10)
             clear hyes hno hw g10
             cbv
             refine ⟨q', [], hst, hmu, ?_⟩
             cbv
             subst hE
             and_intros
             all_goals first
              | exact True.intro
              | rfl
              | exact congrArg (fun x => AV.v (Value.int .i64 x)) hadd
              | exact congrArg (fun x => Value.int .i64 x) hadd
              | (simp; done)
              | fail
           ·intro g8
            have hge : ¬ q < L := by subst hE; simpa [Env.std] using g8
            have hl3 : L = (l3.length : Int) := hl3
            have hdn := hq2.done (show ¬ q.toNat < l3.length by omega)
            have hcl : l3 = c := hdn.symm.trans hdd
            have hc12 : c.length <= 4096 := by rw [<- hcl]; omega
            have hz0 : ∀ i, i < c.length -> (ws).getD i z0 = crP (at' c i) := by rw [hws9, hcl]; exact map_get
            obtain ⟨zz, hzz⟩ : ∃ z, z = ws := ⟨_, rfl⟩
            rw [<- hzz] at hz0
            have hKc : L = (c.length : Int) := by rw [<- hcl]; exact hl3
            have r1 : Env.std.rng 1 L L := by rw [s_rng]; omega
            obtain ⟨n1, hn1⟩ : ∃ x : Int, x = L - 1 := ⟨_, rfl⟩
            have hn1E : Env.std.sb L 1 = n1 := hn1.symm
            obtain ⟨i9, hi9⟩ : ∃ i : Int, i = 0 := ⟨_, rfl⟩
            obtain ⟨l9, hl9⟩ : ∃ i : Int, i = 0 := ⟨_, rfl⟩
            obtain ⟨o9, ho9⟩ : ∃ l : List Sg, l = [] := ⟨_, rfl⟩
            have hf0 : FinI c i9 l9 o9 := FinI.first (by omega) hi9 hl9 ho9
            have hres : ∀ i Lo out, FinI c i Lo out -> ¬ i < n1 -> out = rs /\ Lo = (rs.length : Int) := fun i Lo out h hn => h.done hcs hE0 (by omega)
            have hrnd : ∀ i Lo out, FinI c i Lo out -> i < n1 -> ∃ j w1 w2 Lo' out', FinF c zz L i Lo out j w1 w2 Lo' out' := fun i Lo out h hn => finF_ex hz0 hKc hc12 h (by omega)
            cbv
            refine Need.mk (by subst hE; exact r1) ?_
            cbv
            refine LoopTo.nil 9 27 cS cS_ok rfl ?_
            refine LoopTo.by (ι := Int × Int × List Sg) (fun x => [(54, .v (.int .i64 x.1)), (53, .v (.int .i64 n1)), (9, .s 5 x.2.1)]) (fun x => [(4, .row true 25 cP zz), (5, .row true 27 cS x.2.2)]) (fun x => FinI c x.1 x.2.1 x.2.2) (fun x => (n1 - x.1).toNat) (i9, l9, o9) [] hf0 ?_ ?_
            ·cbv
             subst hE
             and_intros
             all_goals first
              | exact True.intro
              | rfl
              | exact congrArg (fun x => AV.v (Value.int .i64 x)) hi9.symm
              | exact congrArg (fun x => Value.int .i64 x) hi9.symm
              | exact congrArg (fun x => AV.v (Value.int .i64 x)) hn1E
              | exact congrArg (fun x => Value.int .i64 x) hn1E
              | exact congrArg (fun x => AV.v (Value.int .i64 x)) hn1E.symm
              | exact congrArg (fun x => Value.int .i64 x) hn1E.symm
              | exact Sm.of ho9.symm
              | exact Sm.of hzz.symm
              | exact congrArg (fun x => AV.s 5 x) hl9.symm
              | (simp; done)
              | fail
            ·rintro ⟨i, Lo, out⟩ hi
             have hi : FinI c i Lo out := hi
             clear hf0
             cbv
             refine fork.mk ?_ ?_
             ·intro g9
              have hlt : i < n1 := by subst hE; simpa [Env.std] using g9
              refine Exists.elim (hrnd i Lo out hi hlt) ?_
              intro j h
              refine Exists.elim h ?_
              intro w1 h
              refine Exists.elim h ?_
              intro w2 h
              refine Exists.elim h ?_
              intro Lo' h
              refine Exists.elim h ?_
              intro out' hf
              have in1 := hf.in1
              have hadd := hf.add
              have in2 : 0 <= Env.std.ib .add .i64 i 1 /\ Env.std.ib .add .i64 i 1 < L := by rw [hadd]; exact hf.in2
              have happ : Env.std.app Sg (Env.std.tk Sg out Lo) [⟨Env.std.get Pt zz i z0, Env.std.get Pt zz (Env.std.ib .add .i64 i 1) z0⟩] = out' := by rw [hadd, hf.g1, hf.g2]; exact hf.app
              have hfit := hf.fit
              have hlen9 := hf.len
              have hinv := hf.inv
              have hmu := hf.mu n1 hlt
              clear hf h hlt g9
              cbv
              refine Need.mk (by subst hE; exact in1) ?_
              cbv
              refine Need.mk (by subst hE; exact in2) ?_
              cbv
              refine Need.mk (by subst hE; exact hfit) ?_
              cbv
              refine ⟨(j, Lo', out'), [0, 1, 2, 3, 4, 7], hinv, hmu, ?_⟩
              cbv
              subst hE
              and_intros
              all_goals first
               | exact True.intro
               | rfl
               | exact congrArg (fun x => AV.v (Value.int .i64 x)) hadd
               | exact congrArg (fun x => Value.int .i64 x) hadd
               | exact congrArg (fun x => AV.v (Value.int .i64 x)) hlen9
               | exact congrArg (fun x => Value.int .i64 x) hlen9
               | exact Sm.of happ
               | exact congrArg (fun x => AV.s 7 x) hlen9
               | (simp; done)
               | fail
             ·intro g9
              have hge : ¬ i < n1 := by subst hE; simpa [Env.std] using g9
              have hr := hres i Lo out hi hge
              have hr1 : out = rs := hr.1
              have hr2 : Lo = (rs.length : Int) := hr.2
              have htk : Env.std.tk Sg out Lo = out := by rw [s_tk, hr1, hr2]; exact List.take_of_length_le (by omega)
              clear hr hr2
              subst hr1 hre0
              cbv
              subst hE
              exact ⟨Sm.of htk, trivial⟩
       ·intro g7
        have hpos : ¬ 0 < mc0 := by subst hE; simpa [Env.std] using g7
        have hdd : dd l2 = c := by rw [hcs, cutsL, if_neg (by rw [<- emc0]; exact hpos), <- hl1, hset]; exact dd_up hws
        have hl3 : L = (l2.length : Int) := (hlen : L = (l1.length : Int)).trans (congrArg (fun x : Nat => (x : Int)) hl2.symm)
        have hl12 : l2.length <= 12 := by rw [hl2]; exact hle12
        have hl22 : 2 <= l2.length := by rw [hl2]; exact hge2
        obtain ⟨k0, hk0⟩ : ∃ k : Int, k = 1 := ⟨_, rfl⟩
        have hA0 : 1 <= k0 /\ CmpA l2 k0.toNat := ⟨by omega, by rw [hk0]; exact CmpA.first (by omega)⟩
        have hL2 : Env.std.ic .lss L 2 = false := by rw [s_lss]; exact decide_eq_false (by omega)
        cbv
        refine fork.mk (fun e => absurd ((by subst hE; exact hL2 : _ = false).symm.trans e) (by decide)) (fun _ => ?_)
        cbv
        refine LoopTo.by (ι := Int) (fun x => [(3, .v (.int .i64 x))]) (fun x => []) (fun x => 1 <= x /\ CmpA l2 x.toNat) (fun x => (L - x).toNat) k0 [] hA0 ?_ ?_
        ·cbv
         subst hE
         and_intros
         all_goals first
          | exact True.intro
          | rfl
          | exact congrArg (fun x => AV.v (Value.int .i64 x)) hk0.symm
          | exact congrArg (fun x => Value.int .i64 x) hk0.symm
          | (simp; done)
          | fail
        ·intro q hq
         have hq1 : 1 <= q := hq.1
         have hq2 : CmpA l2 q.toNat := hq.2
         clear hq hA0
         cbv
         refine fork.mk ?_ ?_
         ·intro g8
          have hlt : q < L := by subst hE; simpa [Env.std] using g8
          have hl3 : L = (l2.length : Int) := hl3
          refine Exists.elim (cmpF_ex hys hl3 (by omega) hq1 hq2 hlt) ?_
          intro w1 h
          refine Exists.elim h ?_
          intro w2 h
          refine Exists.elim h ?_
          intro q1 h
          refine Exists.elim h ?_
          intro q' hf
          have in1 := hf.in1
          have hsub := hf.sub
          have in2 := hf.in2
          have g1 := hf.g1
          have g2 := hf.g2
          have hadd := hf.add
          have hyes := hf.yes
          have hno := hf.no
          have hmu := hf.mu
          clear hf h g8 hlt
          have in2' : 0 <= Env.std.ib .sub .i64 q 1 /\ Env.std.ib .sub .i64 q 1 < L := by rw [hsub]; exact in2
          have hw : Env.std.get Pt ys q z0 = Env.std.get Pt ys (Env.std.ib .sub .i64 q 1) z0 ↔ w1 = w2 := by rw [hsub, g1, g2]
          cbv
          refine Need.mk (by subst hE; exact in1) ?_
          cbv
          refine Need.mk (by subst hE; exact in2') ?_
          cbv
          refine fork.mk ?_ ?_
          ·intro g10
           have hB := hyes (hw.1 (by subst hE; exact (eqc_P _ _).1 g10))
           have hl3 : L = (l2.length : Int) := hl3
           have rq : Env.std.rng q L L := by rw [s_rng]; omega
           obtain ⟨M, hM⟩ : ∃ M, M = L - q := ⟨_, rfl⟩
           have hME : Env.std.sb L q = M := hM.symm
           obtain ⟨o0, ho0⟩ : ∃ o : Int, o = 1 := ⟨_, rfl⟩
           have hB0 : CmpP l2 q q o0 ys l2 := ⟨hq1, by omega, hys, by
            have e : (q + o0).toNat = q.toNat + 1 := by omega
            rw [e]; exact hB⟩
           clear hB hyes hno hmu g10 hw
           cbv
           refine Need.mk (by subst hE; exact rq) ?_
           cbv
           refine LoopTo.by (ι := Int × Int × List Pt × List Pq) (fun x => [(3, .v (.int .i64 x.1)), (5, .v (.int .i64 x.2.1)), (4, .w 4 q M)]) (fun x => [(4, .row true 25 cP x.2.2.1)]) (fun x => CmpP l2 q x.1 x.2.1 x.2.2.1 x.2.2.2) (fun x => (M - x.2.1).toNat) (q, o0, ys, l2) [] hB0 ?_ ?_
           ·cbv
            subst hE
            and_intros
            all_goals first
             | exact True.intro
             | rfl
             | exact congrArg (fun x => AV.v (Value.int .i64 x)) ho0.symm
             | exact congrArg (fun x => Value.int .i64 x) ho0.symm
             | exact congrArg (fun x => AV.v (Value.int .i64 x)) hME
             | exact congrArg (fun x => Value.int .i64 x) hME
             | exact congrArg (fun x => AV.w 4 q x) hME
             | (simp; done)
             | fail
           ·rintro ⟨k', o', zs, x⟩ hi
            have hi : CmpP l2 q k' o' zs x := hi
            clear hB0
            cbv
            refine fork.mk ?_ ?_
            ·intro g11
             have hl3 : L = (l2.length : Int) := hl3
             have hlt : o' < M := by subst hE; simpa [Env.std] using g11
             refine Exists.elim (cmpG_ex (by omega) hl3 hM (by omega) hi hlt) ?_
             intro v1 h
             refine Exists.elim h ?_
             intro v2 h
             refine Exists.elim h ?_
             intro o1 h
             refine Exists.elim h ?_
             intro a0 h
             refine Exists.elim h ?_
             intro a1 h
             refine Exists.elim h ?_
             intro k2 h
             refine Exists.elim h ?_
             intro o2 h
             refine Exists.elim h ?_
             intro zs2 h
             refine Exists.elim h ?_
             intro x2 hf
             have in3 := hf.in1
             have in4 : 0 <= Env.std.ib .sub .i64 o' 1 /\ Env.std.ib .sub .i64 o' 1 < M := by rw [hf.sub]; exact hf.in2
             have in5 := hf.in3
             have hv : Env.std.get Pt zs (Env.std.ad q o') z0 = Env.std.get Pt zs (Env.std.ad q (Env.std.ib .sub .i64 o' 1)) z0 ↔ v1 = v2 := by rw [hf.sub, hf.ad0, hf.ad1, hf.g1, hf.g2]
             have hrw : Env.std.set Pt zs k' (Env.std.get Pt zs (Env.std.ad q o') z0) = zs2 := by rw [hf.ad0, hf.g1]; exact hf.row
             have hak := hf.addk
             have hao := hf.addo
             have hys2 := hf.yes
             have hno2 := hf.no
             have hmu2 := hf.mu
             clear hf h hi g11 hlt
             cbv
             refine Need.mk (by subst hE; exact in3) ?_
             cbv
             refine Need.mk (by subst hE; exact in4) ?_
             cbv
             refine fork.mk ?_ ?_
             ·intro g12
              have hst := hno2 (fun e => by
               have e2 := hv.2 e
               subst hE
               have g12 : (!eqCells (Env.std.get Pt zs (Env.std.ad q o') z0).c (Env.std.get Pt zs (Env.std.ad q (Env.std.ib .sub .i64 o' 1)) z0).c) = true := g12
               rw [(eqc_P _ _).2 e2] at g12; cases g12)
              clear hys2 hno2 hv
              cbv
              refine Need.mk (by subst hE; exact in3) ?_
              cbv
              refine Need.mk (by subst hE; exact in5) ?_
              cbv
              refine ⟨(k2, o2, zs2, x2), [], hst, hmu2, ?_⟩
              cbv
              subst hE
              and_intros
              all_goals first
               | exact True.intro
               | rfl
               | exact congrArg (fun x => AV.v (Value.int .i64 x)) hak
               | exact congrArg (fun x => Value.int .i64 x) hak
               | exact congrArg (fun x => AV.v (Value.int .i64 x)) hao
               | exact congrArg (fun x => Value.int .i64 x) hao
               | exact Sm.of hrw
               | (simp; done)
               | fail
             ·intro g12
              have hst := hys2 (hv.1 (by
               subst hE
               have g12 : (!eqCells (Env.std.get Pt zs (Env.std.ad q o') z0).c (Env.std.get Pt zs (Env.std.ad q (Env.std.ib .sub .i64 o' 1)) z0).c) = false := g12
               exact (eqc_P _ _).1 (by simpa using g12)))
              clear hys2 hno2 hv
              cbv
              refine ⟨(k', o2, zs, x), [], hst, hmu2, ?_⟩
              cbv
              subst hE
              and_intros
              all_goals first
               | exact True.intro
               | rfl
               | exact congrArg (fun x => AV.v (Value.int .i64 x)) hao
               | exact congrArg (fun x => Value.int .i64 x) hao
               | (simp; done)
               | fail
            ·intro g11
             have hl3 : L = (l2.length : Int) := hl3
             have hge : ¬ o' < M := by subst hE; simpa [Env.std] using g11
             have hk1 := hi.h0
             have hbb := hi.b
             have hno3 : ¬ (q + o').toNat < l2.length := by omega
             have hke := cmp_end hbb hno3 hdd
             have hx := hi.eq
             have hlt2 := hbb.lt
             have hle2 := hbb.le
             have hlen2 := hbb.len
             have hzl : zs.length = l2.length := by rw [hx, List.length_map, hlen2]
             have r2 : Env.std.rng k' L L := by rw [s_rng]; omega
             have r3 : Env.std.ad k' (Env.std.sb L k') = Env.std.len Pt zs := by show k' + (L - k') = (zs.length : Int); omega
             have r4 : Env.std.rng 0 k' L := by rw [s_rng]; omega
             have hc12 : c.length <= 4096 := by omega
             clear hi g11 hge
             cbv
             refine Need.mk (by subst hE; exact r2) ?_
             cbv
             refine Need.mk (by subst hE; first | exact ⟨rfl, r3⟩ | exact r3) ?_
             cbv
             refine Need.mk (by subst hE; exact r4) ?_
             have hz0 : ∀ i, i < c.length -> (Env.std.app Pt (Env.std.tk Pt zs k') (Env.std.rep Pt (Env.std.sb L k') z0)).getD i z0 = crP (at' c i) := by rw [hx]; exact cmp_get hbb hno3 hdd
             obtain ⟨zz, hzz⟩ : ∃ z, z = Env.std.app Pt (Env.std.tk Pt zs k') (Env.std.rep Pt (Env.std.sb L k') z0) := ⟨_, rfl⟩
             rw [<- hzz] at hz0
             have hKc : k' = (c.length : Int) := by omega
             have r1 : Env.std.rng 1 k' k' := by rw [s_rng]; omega
             obtain ⟨n1, hn1⟩ : ∃ x : Int, x = k' - 1 := ⟨_, rfl⟩
             have hn1E : Env.std.sb k' 1 = n1 := hn1.symm
             obtain ⟨i9, hi9⟩ : ∃ i : Int, i = 0 := ⟨_, rfl⟩
             obtain ⟨l9, hl9⟩ : ∃ i : Int, i = 0 := ⟨_, rfl⟩
             obtain ⟨o9, ho9⟩ : ∃ l : List Sg, l = [] := ⟨_, rfl⟩
             have hf0 : FinI c i9 l9 o9 := FinI.first (by omega) hi9 hl9 ho9
             have hres : ∀ i Lo out, FinI c i Lo out -> ¬ i < n1 -> out = rs /\ Lo = (rs.length : Int) := fun i Lo out h hn => h.done hcs hE0 (by omega)
             have hrnd : ∀ i Lo out, FinI c i Lo out -> i < n1 -> ∃ j w1 w2 Lo' out', FinF c zz k' i Lo out j w1 w2 Lo' out' := fun i Lo out h hn => finF_ex hz0 hKc hc12 h (by omega)
             cbv
             refine Need.mk (by subst hE; exact r1) ?_
             cbv
             refine LoopTo.nil 9 27 cS cS_ok rfl ?_
             refine LoopTo.by (ι := Int × Int × List Sg) (fun x => [(54, .v (.int .i64 x.1)), (53, .v (.int .i64 n1)), (9, .s 5 x.2.1)]) (fun x => [(4, .row true 25 cP zz), (5, .row true 27 cS x.2.2)]) (fun x => FinI c x.1 x.2.1 x.2.2) (fun x => (n1 - x.1).toNat) (i9, l9, o9) [] hf0 ?_ ?_
             ·cbv
              subst hE
              and_intros
              all_goals first
               | exact True.intro
               | rfl
               | exact congrArg (fun x => AV.v (Value.int .i64 x)) hi9.symm
               | exact congrArg (fun x => Value.int .i64 x) hi9.symm
               | exact congrArg (fun x => AV.v (Value.int .i64 x)) hn1E
               | exact congrArg (fun x => Value.int .i64 x) hn1E
               | exact congrArg (fun x => AV.v (Value.int .i64 x)) hn1E.symm
               | exact congrArg (fun x => Value.int .i64 x) hn1E.symm
               | exact Sm.of ho9.symm
               | exact Sm.of hzz.symm
               | exact congrArg (fun x => AV.s 5 x) hl9.symm
               | (simp; done)
               | fail
             ·rintro ⟨i, Lo, out⟩ hi
              have hi : FinI c i Lo out := hi
              clear hf0
              cbv
              refine fork.mk ?_ ?_
              ·intro g9
               have hlt : i < n1 := by subst hE; simpa [Env.std] using g9
               refine Exists.elim (hrnd i Lo out hi hlt) ?_
               intro j h
               refine Exists.elim h ?_
               intro w1 h
               refine Exists.elim h ?_
               intro w2 h
               refine Exists.elim h ?_
               intro Lo' h
               refine Exists.elim h ?_
               intro out' hf
               have in1 := hf.in1
               have hadd := hf.add
               have in2 : 0 <= Env.std.ib .add .i64 i 1 /\ Env.std.ib .add .i64 i 1 < k' := by rw [hadd]; exact hf.in2
               have happ : Env.std.app Sg (Env.std.tk Sg out Lo) [⟨Env.std.get Pt zz i z0, Env.std.get Pt zz (Env.std.ib .add .i64 i 1) z0⟩] = out' := by rw [hadd, hf.g1, hf.g2]; exact hf.app
               have hfit := hf.fit
               have hlen9 := hf.len
               have hinv := hf.inv
               have hmu := hf.mu n1 hlt
               clear hf h hlt g9
               cbv
               refine Need.mk (by subst hE; exact in1) ?_
               cbv
               refine Need.mk (by subst hE; exact in2) ?_
               cbv
               refine Need.mk (by subst hE; exact hfit) ?_
               cbv
               refine ⟨(j, Lo', out'), [0, 1, 2, 3, 4, 7], hinv, hmu, ?_⟩
               cbv
               subst hE
               and_intros
               all_goals first
                | exact True.intro
                | rfl
                | exact congrArg (fun x => AV.v (Value.int .i64 x)) hadd
                | exact congrArg (fun x => Value.int .i64 x) hadd
                | exact congrArg (fun x => AV.v (Value.int .i64 x)) hlen9
                | exact congrArg (fun x => Value.int .i64 x) hlen9
                | exact Sm.of happ
                | exact congrArg (fun x => AV.s 7 x) hlen9
                | (simp; done)
                | fail
              ·intro g9
               have hge : ¬ i < n1 := by subst hE; simpa [Env.std] using g9
               have hr := hres i Lo out hi hge
               have hr1 : out = rs := hr.1
               have hr2 : Lo = (rs.length : Int) := hr.2
               have htk : Env.std.tk Sg out Lo = out := by rw [s_tk, hr1, hr2]; exact List.take_of_length_le (by omega)
               clear hr hr2
               subst hr1 hre0
               cbv
               subst hE
               exact ⟨Sm.of htk, trivial⟩
          ·intro g10
           have hst := hno (fun e => by
            have e2 := hw.2 e
            subst hE
            have g10 : eqCells (Env.std.get Pt ys q z0).c (Env.std.get Pt ys (Env.std.ib .sub .i64 q 1) z0).c = false := g10
            rw [(eqc_P _ _).2 e2] at g10; cases g10)
           clear hyes hno hw g10
           cbv
           refine ⟨q', [], hst, hmu, ?_⟩
           cbv
           subst hE
           and_intros
           all_goals first
            | exact True.intro
            | rfl
            | exact congrArg (fun x => AV.v (Value.int .i64 x)) hadd
            | exact congrArg (fun x => Value.int .i64 x) hadd
            | (simp; done)
            | fail
         ·intro g8
          have hge : ¬ q < L := by subst hE; simpa [Env.std] using g8
          have hl3 : L = (l2.length : Int) := hl3
          have hdn := hq2.done (show ¬ q.toNat < l2.length by omega)
          have hcl : l2 = c := hdn.symm.trans hdd
          have hc12 : c.length <= 4096 := by rw [<- hcl]; omega
          have hz0 : ∀ i, i < c.length -> (ys).getD i z0 = crP (at' c i) := by rw [hys, hcl]; exact map_get
          obtain ⟨zz, hzz⟩ : ∃ z, z = ys := ⟨_, rfl⟩
          rw [<- hzz] at hz0
          have hKc : L = (c.length : Int) := by rw [<- hcl]; exact hl3
          have r1 : Env.std.rng 1 L L := by rw [s_rng]; omega
          obtain ⟨n1, hn1⟩ : ∃ x : Int, x = L - 1 := ⟨_, rfl⟩
          have hn1E : Env.std.sb L 1 = n1 := hn1.symm
          obtain ⟨i9, hi9⟩ : ∃ i : Int, i = 0 := ⟨_, rfl⟩
          obtain ⟨l9, hl9⟩ : ∃ i : Int, i = 0 := ⟨_, rfl⟩
          obtain ⟨o9, ho9⟩ : ∃ l : List Sg, l = [] := ⟨_, rfl⟩
          have hf0 : FinI c i9 l9 o9 := FinI.first (by omega) hi9 hl9 ho9
          have hres : ∀ i Lo out, FinI c i Lo out -> ¬ i < n1 -> out = rs /\ Lo = (rs.length : Int) := fun i Lo out h hn => h.done hcs hE0 (by omega)
          have hrnd : ∀ i Lo out, FinI c i Lo out -> i < n1 -> ∃ j w1 w2 Lo' out', FinF c zz L i Lo out j w1 w2 Lo' out' := fun i Lo out h hn => finF_ex hz0 hKc hc12 h (by omega)
          cbv
          refine Need.mk (by subst hE; exact r1) ?_
          cbv
          refine LoopTo.nil 9 27 cS cS_ok rfl ?_
          refine LoopTo.by (ι := Int × Int × List Sg) (fun x => [(54, .v (.int .i64 x.1)), (53, .v (.int .i64 n1)), (9, .s 5 x.2.1)]) (fun x => [(4, .row true 25 cP zz), (5, .row true 27 cS x.2.2)]) (fun x => FinI c x.1 x.2.1 x.2.2) (fun x => (n1 - x.1).toNat) (i9, l9, o9) [] hf0 ?_ ?_
          ·cbv
           subst hE
           and_intros
           all_goals first
            | exact True.intro
            | rfl
            | exact congrArg (fun x => AV.v (Value.int .i64 x)) hi9.symm
            | exact congrArg (fun x => Value.int .i64 x) hi9.symm
            | exact congrArg (fun x => AV.v (Value.int .i64 x)) hn1E
            | exact congrArg (fun x => Value.int .i64 x) hn1E
            | exact congrArg (fun x => AV.v (Value.int .i64 x)) hn1E.symm
            | exact congrArg (fun x => Value.int .i64 x) hn1E.symm
            | exact Sm.of ho9.symm
            | exact Sm.of hzz.symm
            | exact congrArg (fun x => AV.s 5 x) hl9.symm
            | (simp; done)
            | fail
          ·rintro ⟨i, Lo, out⟩ hi
           have hi : FinI c i Lo out := hi
           clear hf0
           cbv
           refine fork.mk ?_ ?_
           ·intro g9
            have hlt : i < n1 := by subst hE; simpa [Env.std] using g9
            refine Exists.elim (hrnd i Lo out hi hlt) ?_
            intro j h
            refine Exists.elim h ?_
            intro w1 h
            refine Exists.elim h ?_
            intro w2 h
            refine Exists.elim h ?_
            intro Lo' h
            refine Exists.elim h ?_
            intro out' hf
            have in1 := hf.in1
            have hadd := hf.add
            have in2 : 0 <= Env.std.ib .add .i64 i 1 /\ Env.std.ib .add .i64 i 1 < L := by rw [hadd]; exact hf.in2
            have happ : Env.std.app Sg (Env.std.tk Sg out Lo) [⟨Env.std.get Pt zz i z0, Env.std.get Pt zz (Env.std.ib .add .i64 i 1) z0⟩] = out' := by rw [hadd, hf.g1, hf.g2]; exact hf.app
            have hfit := hf.fit
            have hlen9 := hf.len
            have hinv := hf.inv
            have hmu := hf.mu n1 hlt
            clear hf h hlt g9
            cbv
            refine Need.mk (by subst hE; exact in1) ?_
            cbv
            refine Need.mk (by subst hE; exact in2) ?_
            cbv
            refine Need.mk (by subst hE; exact hfit) ?_
            cbv
            refine ⟨(j, Lo', out'), [0, 1, 2, 3, 4, 7], hinv, hmu, ?_⟩
            cbv
            subst hE
            and_intros
            all_goals first
             | exact True.intro
             | rfl
             | exact congrArg (fun x => AV.v (Value.int .i64 x)) hadd
             | exact congrArg (fun x => Value.int .i64 x) hadd
             | exact congrArg (fun x => AV.v (Value.int .i64 x)) hlen9
             | exact congrArg (fun x => Value.int .i64 x) hlen9
             | exact Sm.of happ
             | exact congrArg (fun x => AV.s 7 x) hlen9
             | (simp; done)
             | fail
           ·intro g9
            have hge : ¬ i < n1 := by subst hE; simpa [Env.std] using g9
            have hr := hres i Lo out hi hge
            have hr1 : out = rs := hr.1
            have hr2 : Lo = (rs.length : Int) := hr.2
            have htk : Env.std.tk Sg out Lo = out := by rw [s_tk, hr1, hr2]; exact List.take_of_length_le (by omega)
            clear hr hr2
            subst hr1 hre0
            cbv
            subst hE
            exact ⟨Sm.of htk, trivial⟩
end Go.Proofs.YtfdealobplcboaaGreat.Sx
