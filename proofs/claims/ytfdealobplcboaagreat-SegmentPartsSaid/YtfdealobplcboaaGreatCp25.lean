/- Part 25 of what the statement needs: an executor of Go texts, arithmetic, and contracts of the functions that are called. -/
import Derived.Test.YtfdealobplcboaaGreatCp15
import Derived.Test.YtfdealobplcboaaGreatCp22
import Derived.Test.YtfdealobplcboaaGreatCp23
set_option linter.unusedVariables false
set_option linter.unusedSimpArgs false
set_option maxRecDepth 100000
set_option maxHeartbeats 8000000
namespace Go.Proofs.YtfdealobplcboaaGreat.Sx
abbrev zP : Pt := ⟨⟨false, ⟨#[]⟩, ⟨#[]⟩⟩, ⟨false, ⟨#[]⟩, ⟨#[]⟩⟩⟩
/-- What the outer loop holds: the piece reached. -/
structure RefO (S : Sq) (c : List Pq) (k : Nat) (p : Pt) (L : Int) (out : List Sg) : Prop where
 hk : k < c.length
 eq : p = crP (at' c k)
 row : out = (segsL (c.take (k + 1))).map crS
 len : L = out.length
/-- What the inner loop holds: the next cut so far. -/
structure RefI (S : Sq) (a0 : Pq) (qs : List Pq) (i : Int) (nx : Pt) (q : Pq) : Prop where
 h0 : 0 <= i
 h1 : i <= qs.length
 eq : nx = crP q
 nx : NX S a0 (qs.take i.toNat) q
 bd : q = S.b \/ q ∈ qs
/-- What a round of the inner loop needs. -/
structure RefF (s : Sg) (S : Sq) (a0 : Pq) (ps : List Pt) (at0 : Pt) (f : Bool) (i : Int) (nx : Pt) (q : Pq) (p : Pt) (v : Bool) (m1 m2 : Int) (c : Pt) : Prop where
 get : Env.std.get Pt ps i zP = p
 inn : 0 <= i /\ i < (ps.length : Int)
 on : Con Tryz.prog 38 [.v s.v, .v p.v] (.v (.bool v))
 c1 : Con Tryz.prog 106 [.v at0.v, .v p.v] (.v (.int .i64 m1))
 c2 : Con Tryz.prog 106 [.v p.v, .v nx.v] (.v (.int .i64 m2))
 cc : Con Tryz.prog 113 [.v p.v] (.v c.v)
 no : (v = false \/ ¬ decide (m1 < 0) = f \/ m1 = 0 \/ ¬ decide (m2 < 0) = f) -> RefI S a0 (ps.map Pt.q) (i + 1) nx q
 yes : v = true -> decide (m1 < 0) = f -> m1 ≠ 0 -> decide (m2 < 0) = f -> RefI S a0 (ps.map Pt.q) (i + 1) c p.q
theorem refF_ex {k : Nat} {s : Sg} {S : Sq} (hs : IsS k s S) {ps : List Pt} (hp : ∀ p ∈ ps, IsP k p p.q) (hk : 16 * k + 16 <= 134217728) {a0 : Pq} {at0 : Pt} (ha : IsP k at0 a0) {f : Bool} (hf : f = decide (cmpP S.a S.b < 0)) {i : Int} {nx : Pt} {q : Pq} (h : RefI S a0 (ps.map Pt.q) i nx q) (hi : i < (ps.length : Int)) :
  ∃ p v m1 m2 c, RefF s S a0 ps at0 f i nx q p v m1 m2 c := by
 have h0 := h.h0
 have hpos : i.toNat < ps.length := by omega
 obtain ⟨p, hpe⟩ : ∃ p, p = ps[i.toNat] := ⟨_, rfl⟩
 have hpm : IsP k p p.q := hp p (by rw [hpe]; exact List.getElem_mem hpos)
 have hq : BdP k q := by
  rcases h.bd with e | e
  ·rw [e]; exact hs.b.b
  ·obtain ⟨p', h1, h2⟩ := List.mem_map.1 e
   rw [<- h2]; exact (hp p' h1).b
 have hnx : IsP k nx q := by rw [h.eq]; exact hq.is
 obtain ⟨v, ev, kv⟩ := yon_p hs hpm (by omega)
 obtain ⟨m1, e1, k1⟩ := ycmp_p ha hpm (by omega)
 obtain ⟨m2, e2, k2⟩ := ycmp_p hpm hnx (by omega)
 obtain ⟨c, ec, _, kc⟩ := ycan_p hpm (by omega)
 have htake : (ps.map Pt.q).take (i + 1).toNat = (ps.map Pt.q).take i.toNat ++ [p.q] := by
  have e : (i + 1).toNat = i.toNat + 1 := by omega
  rw [e, List.take_add_one, List.getElem?_map, List.getElem?_eq_getElem hpos, hpe]; rfl
 have hst := h.nx.step p.q
 rw [<- htake] at hst
 have hget : Env.std.get Pt ps i zP = p := by
  show ps.getD i.toNat _ = _
  rw [List.getD_eq_getElem?_getD, List.getElem?_eq_getElem hpos, hpe]; rfl
 have hlen : (i + 1 : Int) <= ((ps.map Pt.q).length : Nat) := by rw [List.length_map]; omega
 refine ⟨p, v, m1, m2, c, hget, ⟨h0, hi⟩, kv, k1, k2, kc, fun hn => ⟨by omega, hlen, h.eq, ?_, h.bd⟩, fun y1 y2 y3 y4 => ⟨by omega, hlen, ec, ?_, .inr (List.mem_map.2 ⟨p, by rw [hpe]; exact List.getElem_mem hpos, rfl⟩)⟩⟩
 ·have : nxtS S a0 q p.q = q := by
   unfold nxtS
   rw [if_neg]
   rintro ⟨n1, n2, n3, n4⟩
   rw [<- onR_eq, <- ev] at n1
   rw [<- e1, <- hf] at n2
   rw [<- e1] at n3
   rw [<- e2, <- hf] at n4
   rcases hn with hn | hn | hn | hn
   ·rw [hn] at n1; cases n1
   ·exact hn n2
   ·exact n3 hn
   ·exact hn n4
  rw [this] at hst; exact hst
 ·have : nxtS S a0 q p.q = p.q := by
   unfold nxtS
   rw [if_pos]
   refine ⟨by rw [<- onR_eq, <- ev]; exact y1, by rw [<- e1, <- hf]; exact y2, by rw [<- e1]; exact y3, by rw [<- e2, <- hf]; exact y4⟩
  rw [this] at hst; exact hst
/-- What a round of the outer loop leaves. -/
structure RefG (S : Sq) (c : List Pq) (k : Nat) (p nx : Pt) (L : Int) (out : List Sg) (k' : Nat) (L' : Int) (out' : List Sg) : Prop where
 app : Env.std.app Sg (Env.std.tk Sg out L) [⟨p, nx⟩] = out'
 fit : Env.std.fits (Env.std.ad L (Env.std.len Sg [⟨p, nx⟩])) 160
 len : Env.std.ad L (Env.std.len Sg [⟨p, nx⟩]) = L'
 inv : RefO S c k' nx L' out'
 up : k' = k + 1
 lt : k + 1 < c.length
theorem refG_ex {S : Sq} {l : List Pq} (hs : chkQ S = 0) (hl : (cutsL S l).length <= 4096) {k : Nat} {p : Pt} {L : Int} {out : List Sg} (h : RefO S (cutsL S l) k p L out) (hk : k + 1 < (cutsL S l).length) {nx : Pt} {q : Pq} {i : Int} (hn : RefI S (at' (cutsL S l) k) l i nx q) (hi : ¬ i < (l.length : Int)) : ∃ k' L' out', RefG S (cutsL S l) k p nx L out k' L' out' := by
 have h1 := hn.nx
 rw [List.take_of_length_le (by omega)] at h1
 have hq := h1.done hs hk
 have hlen := h.len
 have hol : out.length <= 4096 := by rw [h.row, List.length_map, segs_len, List.length_take]; omega
 refine ⟨k + 1, L + 1, out ++ [⟨p, nx⟩], ⟨by rw [s_app, s_tk, List.take_of_length_le (by omega)], ?_, rfl, ⟨hk, by rw [hn.eq, hq], ?_, by rw [hlen]; simp⟩, rfl, hk⟩⟩
 ·rw [s_fits]
  show 0 <= L + 1 /\ L + 1 <= _ /\ (L + 1) * 160 <= _
  omega
 ·rw [segs_take hk, List.map_append, h.row, h.eq, hn.eq, hq]; rfl
theorem ysplit_q {k : Nat} {s : Sg} {S : Sq} (hs : IsS k s S) (ps : List Pt) (hp : ∀ p ∈ ps, IsP k p p.q) (hk : 16 * k + 16 <= 134217728) (hl : ps.length <= 2000) :
  Con Tryz.prog 69 [.v s.v, .ro cP ps] (.tup [.own 27 cS ((splitL S (ps.map Pt.q)).map crS), .v (.int .i64 (splitE S ps.length))]) := by
 obtain ⟨n, hn0⟩ : ∃ n : Int, n = ps.length := ⟨_, rfl⟩
 obtain ⟨rs, hrs⟩ : ∃ l, l = (splitL S (ps.map Pt.q)).map crS := ⟨_, rfl⟩
 obtain ⟨re, hre⟩ : ∃ e, e = splitE S ps.length := ⟨_, rfl⟩
 obtain ⟨m1, em1, km1⟩ := ychk_p hs (by omega)
 obtain ⟨m0, em0, km0⟩ := ycmp_p hs.a hs.b (by omega)
 obtain ⟨a, ea, haa, kaa⟩ := ycan_p hs.a (by omega)
 obtain ⟨b, eb, hbb, kbb⟩ := ycan_p hs.b (by omega)
 obtain ⟨f, hf⟩ : ∃ f, f = decide (cmpP S.a S.b < 0) := ⟨_, rfl⟩
 have hfE : Env.std.ic .lss m0 0 = f := by rw [s_lss, hf, em0]
 obtain ⟨c, hc⟩ : ∃ c, c = cutsL S (ps.map Pt.q) := ⟨_, rfl⟩
 obtain ⟨i0, hi0⟩ : ∃ i : Int, i = 0 := ⟨_, rfl⟩
 obtain ⟨l0, hl0⟩ : ∃ i : Int, i = 0 := ⟨_, rfl⟩
 obtain ⟨o0, ho0⟩ : ∃ i : List Sg, i = [] := ⟨_, rfl⟩
 have hkb : k + k <= 134217728 := by omega
 rw [<- hrs, <- hre]
 refine Con.of ttOk mixed Tryz.func69 { ord := [] } .nil 0 (by kernel_rfl) (fun P' E hP hE => ?_)
 cbv
 refine CallTo.w hP hE km1 ⟨rfl, trivial⟩ ?_
 cbv
 refine fork.mk ?_ ?_
 ·intro g1
  have h1 : m1 ≠ 0 := by subst hE; simpa [Env.std] using g1
  rw [em1] at h1
  have hE1 : re = 12 := by rw [hre]; unfold splitE; rw [if_pos h1]
  have hL1 : rs = [] := by rw [hrs]; unfold splitL splitE; rw [if_neg (by rw [if_pos h1]; decide)]; rfl
  clear hre hrs h1
  subst hE1 hL1
  cbv
  subst hE
  exact ⟨Sm.of rfl, trivial⟩
 ·intro g1
  have hm1 : m1 = 0 := by subst hE; simpa [Env.std] using g1
  cbv
  refine fork.mk ?_ ?_
  ·intro g2
   have h2 : 1000 < ps.length := by
    have : (1000 : Int) < (ps.length : Int) := by subst hE; simpa [Env.std] using g2
    omega
   have hE1 : re = 4 := by rw [hre]; unfold splitE; rw [if_neg (by rw [<- em1]; simp [hm1]), if_pos h2]
   have hL1 : rs = [] := by
    rw [hrs]; unfold splitL; rw [if_neg]
    ·rfl
    ·rw [List.length_map, <- hre, hE1]; decide
   clear hre hrs h2
   subst hE1 hL1
   cbv
   subst hE
   exact ⟨Sm.of rfl, trivial⟩
  ·intro g2
   have h2 : ¬ 1000 < ps.length := by
    have : ¬ (1000 : Int) < (ps.length : Int) := by subst hE; simpa [Env.std] using g2
    omega
   have hre0 : re = 0 := by rw [hre, splitE, if_neg (by rw [<- em1]; simp [hm1]), if_neg h2]
   have hE0 : rs = (segsL c).map crS := by rw [hrs, splitL, List.length_map, <- hre, if_pos hre0, hc]
   have hchk : chkQ S = 0 := by rw [<- em1]; exact hm1
   have hc2 : 2 <= c.length := by rw [hc]; exact cuts_pos hchk _
   have hc12 : c.length <= 4096 := by
    have h5 : ∀ l : List Pq, (setL l).length <= l.length := by
     intro l
     induction l with
     | nil => exact Nat.le_refl _
     | cons p l ih =>
      have h6 : ∀ m : List Pq, (insU p m).length <= m.length + 1 := by
       intro m
       induction m with
       | nil => exact Nat.le_refl _
       | cons x m ih =>
        unfold insU
        split
        ·simp
        ·split
         ·simp
         ·simp only [List.length_cons]; omega
      show (insU p (setL l)).length <= _
      have := h6 (setL l)
      simp only [List.length_cons]; omega
    have h7 := List.length_filter_le (onQ S) (ps.map Pt.q)
    rw [List.length_map] at h7
    have h8 : c.length = (setL (S.a :: S.b :: (ps.map Pt.q).filter (onQ S))).length := by
     rw [hc, cutsL]; split
     ·rw [List.length_reverse]
     ·rfl
    have := h5 (S.a :: S.b :: (ps.map Pt.q).filter (onQ S))
    simp only [List.length_cons] at this
    omega
   have hbd : ∀ q ∈ c, BdP k q := by
    intro q hq
    rw [hc] at hq
    rcases mem_cuts.1 hq with e | e | e
    ·rw [e]; exact hs.a.b
    ·rw [e]; exact hs.b.b
    ·obtain ⟨p, h1, h2⟩ := List.mem_map.1 e.1
     rw [<- h2]; exact (hp p h1).b
   obtain ⟨mu, hmu9⟩ : ∃ mu : Nat -> Nat, mu = fun k => c.length - k := ⟨_, rfl⟩
   obtain ⟨z9, hz9⟩ : ∃ z : Nat, z = 0 := ⟨_, rfl⟩
   have hO0 : RefO S c z9 a l0 o0 := ⟨by omega, by rw [hz9, ea, hc, cuts_first hchk], by rw [ho0, hz9]; show _ = (segsL (c.take 1)).map crS; rw [segs_one (by omega)]; rfl, by rw [hl0, ho0]; rfl⟩
   have hend : ∀ q, q < c.length -> (cmpP (at' c q) S.b = 0 ↔ q + 1 = c.length) := fun q hq => by rw [cmpP_eq, hc]; exact cuts_last hchk _ (by rw [<- hc]; exact hq)
   have hdir : ∀ q, q + 1 < c.length -> dirP S (at' c q) S.b := fun q hq => by
    have h1 : at' c (c.length - 1) = S.b := by
     have := (cuts_last hchk (ps.map Pt.q) (k := c.length - 1) (by rw [<- hc]; omega)).2 (by rw [<- hc]; omega)
     rw [<- hc] at this; exact this
    rw [<- h1]
    exact pw_at (hc ▸ cuts_dir hchk _) (by omega) (by omega)
   cbv
   refine CallTo.w hP hE km0 ⟨rfl, rfl, trivial⟩ ?_
   cbv
   refine CallTo.w hP hE kaa ⟨rfl, trivial⟩ ?_
   cbv
   refine LoopTo.by (ι := Nat × Pt × Int × List Sg) (fun x => [(6, .s 3 x.2.2.1), (7, .v (.bool f)), (12, .any)]) (fun x => [(3, .row true 27 cS x.2.2.2), (4, .cells x.2.1.av 25)]) (fun x => RefO S c x.1 x.2.1 x.2.2.1 x.2.2.2) (fun x => mu x.1) (z9, a, l0, o0) [] hO0 ?_ ?_
   ·cbv
    subst hE
    and_intros
    all_goals first
     | exact True.intro
     | rfl
     | exact Sm.of ho0.symm
     | exact congrArg (fun x => AV.s 3 x) hl0.symm
     | exact congrArg (fun x => AV.v (Value.bool x)) hfE
     | exact congrArg (fun x => Value.bool x) hfE
     | (simp [hl0]; done)
     | fail
   ·rintro ⟨q, p, Lo, out⟩ hi
    have hi : RefO S c q p Lo out := hi
    have hpq : IsP k p (at' c q) := by rw [hi.eq]; exact (hbd _ (at_mem hi.hk)).is
    clear hO0
    cbv
    refine Exists.elim (ycmp_p hpq hs.b hkb) ?_
    intro mm h
    have emm := h.1
    have kmm := h.2
    clear h
    refine CallTo.w hP hE kmm ⟨rfl, rfl, trivial⟩ ?_
    cbv
    refine fork.mk ?_ ?_
    ·intro g3
     have h3 : mm ≠ 0 := by subst hE; simpa [Env.std] using g3
     have hq1 : q + 1 < c.length := by
      have h4 := hi.hk
      have h5 := hend q h4
      rw [<- emm] at h5
      rcases Nat.lt_or_ge (q + 1) c.length with h6 | h6
      ·exact h6
      ·exact absurd (h5.2 (by omega)) h3
     have hI0 : RefI S (at' c q) (ps.map Pt.q) i0 b S.b := ⟨by omega, by omega, eb, by rw [hi0]; exact NX.first (hdir q hq1), .inl rfl⟩
     have hn0 : n = (ps.length : Int) := hn0
     have hrnd : ∀ i nx q', RefI S (at' c q) (ps.map Pt.q) i nx q' -> i < n -> ∃ p' v m1 m2 c', RefF s S (at' c q) ps p f i nx q' p' v m1 m2 c' := fun i nx q' h h' => refF_ex hs hp hk hpq hf h (hn0 ▸ h')
     have hout : ∀ i nx q', RefI S (at' c q) (ps.map Pt.q) i nx q' -> ¬ i < n -> ∃ k' L' out', RefG S c q p nx Lo out k' L' out' := fun i nx q' h h' => by
      subst hc
      exact refG_ex hchk hc12 hi hq1 h (by rw [List.length_map]; exact hn0 ▸ h')
     cbv
     refine CallTo.w hP hE kbb ⟨rfl, trivial⟩ ?_
     cbv
     refine LoopTo.by (ι := Int × Pt × Pq) (fun x => [(10, .v (.int .i64 x.1))]) (fun x => [(5, .cells x.2.1.av 25)]) (fun x => RefI S (at' c q) (ps.map Pt.q) x.1 x.2.1 x.2.2) (fun x => (n - x.1).toNat) (i0, b, S.b) [] hI0 ?_ ?_
     ·cbv
      subst hE
      and_intros
      all_goals first
       | exact True.intro
       | rfl
       | exact congrArg (fun x => AV.v (Value.int .i64 x)) hi0.symm
       | exact congrArg (fun x => Value.int .i64 x) hi0.symm
       | (simp; done)
       | fail
     ·rintro ⟨i, nx, q'⟩ hj
      have hj : RefI S (at' c q) (ps.map Pt.q) i nx q' := hj
      clear hI0
      cbv
      refine fork.mk ?_ ?_
      ·intro g4
       have hn0 : n = (ps.length : Int) := hn0
       have hlt : i < n := by subst hE; rw [hn0]; simpa [Env.std] using g4
       refine Exists.elim (hrnd i nx q' hj hlt) ?_
       intro p' h
       refine Exists.elim h ?_
       intro v h
       refine Exists.elim h ?_
       intro n1 h
       refine Exists.elim h ?_
       intro n2 h
       refine Exists.elim h ?_
       intro c' hf9
       have hget := hf9.get
       have hin := hf9.inn
       have kon := hf9.on
       have k1 := hf9.c1
       have k2 := hf9.c2
       have kc := hf9.cc
       have hno := hf9.no
       have hyes := hf9.yes
       obtain ⟨i', hi'⟩ : ∃ j, j = i + 1 := ⟨_, rfl⟩
       have hadd : Env.std.ib .add .i64 i 1 = i' := by rw [s_add, w64 (by omega) (by omega), hi']
       have hmu : (n - i').toNat < (n - i).toNat := by omega
       rw [<- hi'] at hno hyes
       clear hf9 h hj hlt g4 hi'
       cbv
       refine Need.mk (by subst hE; exact hin) ?_
       cbv
       refine CallTo.w hP hE kon ⟨rfl, (by subst hE; exact congrArg (fun p : Pt => p.v) hget), trivial⟩ ?_
       cbv
       have b1 : ∀ m : Int, Env.std.bn (Env.std.bq (Env.std.ic .lss m 0) f) = true -> ¬ decide (m < 0) = f := fun m h e => by
        rw [s_bn, s_bq, s_lss, e] at h; simp at h
       have b0 : ∀ m : Int, Env.std.bn (Env.std.bq (Env.std.ic .lss m 0) f) = false -> decide (m < 0) = f := fun m h => by
        rw [s_bn, s_bq, s_lss] at h; simpa using h
       refine fork.mk ?_ ?_
       ·intro g5
        have h5 : v = false := by subst hE; have g5 : (!v) = true := g5; simpa using g5
        clear hyes b0 b1
        cbv
        refine ⟨(i', nx, q'), [], hno (.inl h5), hmu, ?_⟩
        cbv
        subst hE
        and_intros
        all_goals first
         | exact True.intro
         | rfl
         | exact congrArg (fun x => AV.v (Value.int .i64 x)) hadd
         | exact congrArg (fun x => Value.int .i64 x) hadd
         | (simp; done)
         | fail
       ·intro g5
        have h5 : v = true := by subst hE; have g5 : (!v) = false := g5; simpa using g5
        cbv
        refine CallTo.w hP hE k1 ⟨rfl, (by subst hE; exact congrArg (fun p : Pt => p.v) hget), trivial⟩ ?_
        cbv
        refine fork.mk ?_ ?_
        ·intro g6
         have h6 := b1 n1 (by subst hE; exact g6)
         clear hyes b0 b1
         cbv
         refine ⟨(i', nx, q'), [], hno (.inr (.inl h6)), hmu, ?_⟩
         cbv
         subst hE
         and_intros
         all_goals first
          | exact True.intro
          | rfl
          | exact congrArg (fun x => AV.v (Value.int .i64 x)) hadd
          | exact congrArg (fun x => Value.int .i64 x) hadd
          | (simp; done)
          | fail
        ·intro g6
         have h6 := b0 n1 (by subst hE; exact g6)
         cbv
         refine CallTo.w hP hE k1 ⟨rfl, (by subst hE; exact congrArg (fun p : Pt => p.v) hget), trivial⟩ ?_
         cbv
         refine fork.mk ?_ ?_
         ·intro g7
          have h7 : n1 = 0 := by subst hE; have g7 : Env.std.ic .eql n1 0 = true := g7; simpa using g7
          clear hyes b0 b1
          cbv
          refine ⟨(i', nx, q'), [], hno (.inr (.inr (.inl h7))), hmu, ?_⟩
          cbv
          subst hE
          and_intros
          all_goals first
           | exact True.intro
           | rfl
           | exact congrArg (fun x => AV.v (Value.int .i64 x)) hadd
           | exact congrArg (fun x => Value.int .i64 x) hadd
           | (simp; done)
           | fail
         ·intro g7
          have h7 : ¬ n1 = 0 := by subst hE; have g7 : Env.std.ic .eql n1 0 = false := g7; simpa using g7
          cbv
          refine CallTo.w hP hE k2 ⟨(by subst hE; exact congrArg (fun p : Pt => p.v) hget), rfl, trivial⟩ ?_
          cbv
          refine fork.mk ?_ ?_
          ·intro g8
           have h8 := b1 n2 (by subst hE; exact g8)
           clear hyes b0 b1
           cbv
           refine ⟨(i', nx, q'), [], hno (.inr (.inr (.inr h8))), hmu, ?_⟩
           cbv
           subst hE
           and_intros
           all_goals first
            | exact True.intro
            | rfl
            | exact congrArg (fun x => AV.v (Value.int .i64 x)) hadd
            | exact congrArg (fun x => Value.int .i64 x) hadd
            | (simp; done)
            | fail
          ·intro g8
           have h8 := b0 n2 (by subst hE; exact g8)
           have hst := hyes h5 h6 h7 h8
           clear hno b0 b1
           cbv
           refine CallTo.w hP hE kc ⟨(by subst hE; exact congrArg (fun p : Pt => p.v) hget), trivial⟩ ?_
           cbv
           refine ⟨(i', c', p'.q), [], hst, hmu, ?_⟩
           cbv
           subst hE
           and_intros
           all_goals first
            | exact True.intro
            | rfl
            | exact congrArg (fun x => AV.v (Value.int .i64 x)) hadd
            | exact congrArg (fun x => Value.int .i64 x) hadd
            | (simp; done)
            | fail
      ·intro g4
       have hn0 : n = (ps.length : Int) := hn0
       have hge : ¬ i < n := by subst hE; rw [hn0]; simpa [Env.std] using g4
       have hx := hout i nx q' hj hge
       clear hj g4 hge hout hrnd
       cbv
       refine Exists.elim hx ?_
       intro k9 h
       refine Exists.elim h ?_
       intro L' h
       refine Exists.elim h ?_
       intro out' hf9
       have happ := hf9.app
       have hfit := hf9.fit
       have hlen9 := hf9.len
       have hinv := hf9.inv
       have hmu : mu k9 < mu q := by have h8 := hf9.up; have h9 := hf9.lt; rw [hmu9]; show c.length - k9 < c.length - q; omega
       refine Need.mk (by subst hE; exact hfit) ?_
       cbv
       refine ⟨(k9, nx, L', out'), [0, 1, 2, 7, 4], hinv, hmu, ?_⟩
       cbv
       subst hE
       and_intros
       all_goals first
        | exact True.intro
        | rfl
        | exact Sm.of happ
        | exact congrArg (fun x => AV.s 7 x) hlen9
        | (simp; done)
        | fail
    ·intro g3
     have h3 : mm = 0 := by subst hE; simpa [Env.std] using g3
     have hq1 : q + 1 = c.length := (hend q hi.hk).1 (by rw [<- emm]; exact h3)
     have hr1 : out = rs := by rw [hi.row, hE0, segs_all (by omega)]
     have hr2 : Lo = (rs.length : Int) := by rw [hi.len, hr1]
     have htk : Env.std.tk Sg out Lo = out := by rw [s_tk, hr1, hr2]; exact List.take_of_length_le (by omega)
     clear hi hr2 hE0 hre hrs
     subst hr1 hre0
     cbv
     subst hE
     exact ⟨Sm.of htk, trivial⟩
end Go.Proofs.YtfdealobplcboaaGreat.Sx

set_option linter.unusedVariables false
set_option linter.unusedSimpArgs false
set_option maxRecDepth 100000
set_option maxHeartbeats 8000000
namespace Go.Proofs.YtfdealobplcboaaGreat.Sx
theorem ysame_q (rs : List Sg) (hl : rs.length <= 4096) : Con Tryz.prog 70 [.ro cS rs, .ro cS rs] (.v (.bool true)) := by
 obtain ⟨n, hn⟩ : ∃ n : Int, n = rs.length := ⟨_, rfl⟩
 obtain ⟨i0, hi0⟩ : ∃ i : Int, i = 0 := ⟨_, rfl⟩
 have hp0 : 0 <= i0 /\ i0 <= n := ⟨by omega, by omega⟩
 have hne : Env.std.ic .neq (Env.std.len Sg rs) (Env.std.len Sg rs) = false := by rw [s_neq]; exact decide_eq_false (fun h => h rfl)
 refine Con.of ttOk mixed Tryz.func70 { ord := [(6, [0, 1, 2, 3, 4, 5, 6, 7, 8])] } .nil 0 (by kernel_rfl) (fun P' E hP hE => ?_)
 cbv
 refine fork.mk (fun e => absurd ((by subst hE; exact hne : _ = false).symm.trans e) (by decide)) (fun _ => ?_)
 cbv
 refine LoopTo.by (ι := Int) (fun x => [(5, .v (.int .i64 x))]) (fun x => []) (fun x => 0 <= x /\ x <= n) (fun x => (n - x).toNat) i0 [] hp0 ?_ ?_
 ·cbv
  subst hE
  and_intros
  all_goals first
   | exact True.intro
   | rfl
   | exact congrArg (fun x => AV.v (Value.int .i64 x)) hi0.symm
   | exact congrArg (fun x => Value.int .i64 x) hi0.symm
   | (simp; done)
   | fail
 ·intro i hi
  have h0 : 0 <= i := hi.1
  have h1 : i <= n := hi.2
  clear hi hp0
  cbv
  refine fork.mk ?_ ?_
  ·intro g
   have hn : n = (rs.length : Int) := hn
   have hlt : i < (rs.length : Int) := by subst hE; simpa [Env.std] using g
   have hin : 0 <= i /\ i < (rs.length : Int) := ⟨h0, hlt⟩
   obtain ⟨j, hj⟩ : ∃ j, j = i + 1 := ⟨_, rfl⟩
   have hadd : Env.std.ib .add .i64 i 1 = j := by rw [s_add, w64 (by omega) (by omega), hj]
   have hst : 0 <= j /\ j <= n := ⟨by omega, by omega⟩
   have hmu : (n - j).toNat < (n - i).toNat := by omega
   clear hj h0 h1 g hlt
   cbv
   refine Need.mk (by subst hE; exact hin) ?_
   cbv
   refine Need.mk (by subst hE; exact hin) ?_
   cbv
   refine fork.mk ?_ ?_
   ·intro g
    exfalso
    subst hE
    have g : (!eqCells (Env.std.get Sg rs i ⟨⟨⟨false, ⟨#[]⟩, ⟨#[]⟩⟩, ⟨false, ⟨#[]⟩, ⟨#[]⟩⟩⟩, ⟨⟨false, ⟨#[]⟩, ⟨#[]⟩⟩, ⟨false, ⟨#[]⟩, ⟨#[]⟩⟩⟩⟩).c (Env.std.get Sg rs i ⟨⟨⟨false, ⟨#[]⟩, ⟨#[]⟩⟩, ⟨false, ⟨#[]⟩, ⟨#[]⟩⟩⟩, ⟨⟨false, ⟨#[]⟩, ⟨#[]⟩⟩, ⟨false, ⟨#[]⟩, ⟨#[]⟩⟩⟩⟩).c) = true := g
    rw [(eqc_S _ _).2 rfl] at g; cases g
   ·intro g
    cbv
    refine ⟨j, [], hst, hmu, ?_⟩
    cbv
    subst hE
    and_intros
    all_goals first
     | exact True.intro
     | rfl
     | exact congrArg (fun x => AV.v (Value.int .i64 x)) hadd
     | exact congrArg (fun x => Value.int .i64 x) hadd
     | (simp; done)
     | fail
  ·intro g
   cbv
end Go.Proofs.YtfdealobplcboaaGreat.Sx
