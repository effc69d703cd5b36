/- Part 32 of what the statement needs: an executor of Go texts, arithmetic, and contracts of the functions that are called. -/
import Derived.Test.YtkipmmiiackdaaaGreatCa29
import Derived.Test.YtkipmmiiackdaaaGreatCa30
import Derived.Test.YtkipmmiiackdaaaGreatCa31
set_option linter.unusedSimpArgs false
set_option linter.unusedVariables false
set_option maxHeartbeats 8000000
set_option maxRecDepth 100000
namespace Go.Proofs.YtkipmmiiackdaaaGreat.Sx
open Env (std)
structure FltI (ps:List Pt) (n i:Int):Prop where
 h0:0<=i
 h1:i<=n
 no:∀ k,k < i.toNat->flatAt (ps.map Pt.q) k=false
/-- A round. -/
structure FltF (ps:List Pt) (n i:Int) (a b c j:Int) (p q r:Pt) (m:Int):Prop where
 in1:0<=i/\i < (ps.length:Int)
 in0:0<=a/\a < (ps.length:Int)
 in2:0<=c/\c < (ps.length:Int)
 nz:n ≠ 0
 e1:std.ib .add .i64 i n=b
 e2:std.ib .rem .i64 (std.ib .sub .i64 b 1) n=a
 e3:std.ib .add .i64 i 1=j
 e4:std.ib .rem .i64 j n=c
 g0:std.get Pt ps a zQ=p
 g1:std.get Pt ps i zQ=q
 g2:std.get Pt ps c zQ=r
 co:Con Tryz.prog 28 [.v p.v,.v q.v,.v r.v] (.v (.int .i64 m))
 yes:m=0->flatI (ps.map Pt.q)=i
 no:m ≠ 0->FltI ps n j
 mu:(n - j).toNat < (n - i).toNat
theorem fltF_ex {k0:Nat} {ps:List Pt} (hp:∀ p ∈ ps,IsP k0 p p.q) (hl:ps.length<=4096) (hk:16*k0+16<=134217728) {n i:Int} (hn:n=(ps.length:Int)) (h:FltI ps n i) (hi:i < n):∃ a b c j p q r m,FltF ps n i a b c j p q r m:=by
 have h0:=h.h0
 obtain ⟨N,hN⟩:∃ N:Nat,N=ps.length:=⟨_,rfl⟩
 obtain ⟨u,hu⟩:∃ u:Nat,(u:Int)=i:=⟨i.toNat,by omega⟩
 have hNn:n=(N:Int):=by omega
 have l0:(u+N - 1) % N < N:=Nat.mod_lt _ (by omega)
 have l2:(u+1) % N < N:=Nat.mod_lt _ (by omega)
 obtain ⟨m,em,km⟩:=orient_p (hp _ (getD_mem (show (u+N - 1) % N < ps.length by omega))) (hp _ (getD_mem (show u < ps.length by omega))) (hp _ (getD_mem (show (u+1) % N < ps.length by omega))) (by omega)
 have hfl:flatAt (ps.map Pt.q) u=decide (m=0):=by
  unfold flatAt
  rw [List.length_map,<-hN,map_at (show (u+N - 1) % N < ps.length by omega),map_at (show u < ps.length by omega),map_at (show (u+1) % N < ps.length by omega),em]
 refine ⟨(((u+N - 1) % N:Nat):Int),i+n,(((u+1) % N:Nat):Int),i+1,ps.getD ((u+N - 1) % N) zQ,ps.getD u zQ,ps.getD ((u+1) % N) zQ,m,⟨by omega,by omega,by omega,by omega,?_,?_,?_,?_,rfl,?_,rfl,?_,?_,?_,by omega⟩⟩
 ·rw [s_add,w64 (by omega) (by omega)]
 ·rw [s_sub,w64 (by omega) (by omega),s_rem]
  have e:(i+n - 1:Int)=((u+N - 1:Nat):Int):=by omega
  rw [e,hNn]
  have:Int.tmod ((u+N - 1:Nat):Int) (N:Int)=(((u+N - 1) % N:Nat):Int):=rfl
  rw [this]
 ·rw [s_add,w64 (by omega) (by omega)]
 ·rw [s_rem]
  have e:(i+1:Int)=((u+1:Nat):Int):=by omega
  rw [e,hNn]
  have:Int.tmod ((u+1:Nat):Int) (N:Int)=(((u+1) % N:Nat):Int):=rfl
  rw [this]
 ·rw [<-hu]; rfl
 ·exact km
 ·intro c
  rw [<-hu]
  refine flatI_at (by rw [List.length_map]; omega) (fun k hk=>h.no k (by omega)) (by rw [hfl]; exact decide_eq_true c)
 ·intro c
  refine ⟨by omega,by omega,fun k hk=>?_⟩
  by_cases e:k=u
  ·rw [e,hfl]; exact decide_eq_false c
  ·exact h.no k (by omega)
theorem flat_q {k0:Nat} {ps:List Pt} (hp:∀ p ∈ ps,IsP k0 p p.q) (hl:ps.length<=4096) (hk:16*k0+16<=134217728):Con Tryz.prog 106 [.ro cP ps] (.v (.int .i64 (flatI (ps.map Pt.q)))):=by
 obtain ⟨r0,e0⟩:∃ r:Int,r=flatI (ps.map Pt.q):=⟨_,rfl⟩
 rw [<-e0]
 obtain ⟨n,hn⟩:∃ n:Int,n=ps.length:=⟨_,rfl⟩
 obtain ⟨i0,hi0⟩:∃ i:Int,i=0:=⟨_,rfl⟩
 have hp0:FltI ps n i0:=⟨by omega,by omega,fun k hk=>by rw [hi0] at hk; exact absurd hk (Nat.not_lt_zero _)⟩
 have hrnd:∀ i,FltI ps n i->i < n->∃ a b c j p q r m,FltF ps n i a b c j p q r m:=fun i h h'=>fltF_ex hp hl hk hn h h'
 have hfin:∀ i,FltI ps n i->¬ i < n->r0 = -1:=fun i h h'=>by
  have h1:=h.h1
  rw [e0]
  exact flatI_no (fun k hk=>h.no k (by rw [List.length_map] at hk; omega))
 have hyes9:∀ i,flatI (ps.map Pt.q)=i->i=r0:=fun i h=>by rw [e0,h]
 clear e0
 refine Con.of ttOk mixed Tryz.func106 { ord:=[(5,[0,1,2,3,4,5,6,7,8,9,10,11,12,13,14,15,16,17,18])] } .nil 0 (by kernel_rfl) (fun P' E hP hE=>?_)
 cbv
 refine LoopTo.by (ι:=Int) (fun x=>[(3,.v (.int .i64 n)),(9,.v (.int .i64 n)),(10,.v (.int .i64 x))]) (fun x=>[]) (fun x=>FltI ps n x) (fun x=>(n - x).toNat) i0 [] hp0 ?_ ?_
 ·cbv
  subst hE
  and_intros
  all_goals first
   | exact True.intro
   | rfl
   | exact vi hn.symm
   | exact vj hi0.symm
   | (simp; done)
 ·intro i hi
  have hi:FltI ps n i:=hi
  clear hp0
  cbv
  refine fork.mk ?_ ?_
  ·intro g
   have hlt:i < n:=by subst hE; simpa [std] using g
   cbv
   refine Exists.elim (hrnd i hi hlt) ?_
   intro a h
   refine Exists.elim h ?_
   intro b h
   refine Exists.elim h ?_
   intro c h
   refine Exists.elim h ?_
   intro j h
   refine Exists.elim h ?_
   intro p h
   refine Exists.elim h ?_
   intro q h
   refine Exists.elim h ?_
   intro r h
   refine Exists.elim h ?_
   intro m hf
   have in1:=hf.in1
   have e1:=hf.e1
   have e2:=hf.e2
   have e3:=hf.e3
   have e4:=hf.e4
   have in0:0<=std.ib .rem .i64 (std.ib .sub .i64 (std.ib .add .i64 i n) 1) n/\std.ib .rem .i64 (std.ib .sub .i64 (std.ib .add .i64 i n) 1) n < (ps.length:Int):=by rw [e1,e2]; exact hf.in0
   have in2:0<=std.ib .rem .i64 (std.ib .add .i64 i 1) n/\std.ib .rem .i64 (std.ib .add .i64 i 1) n < (ps.length:Int):=by rw [e3,e4]; exact hf.in2
   have hnz:std.nz .rem n:=hf.nz
   have hg0:std.get Pt ps (std.ib .rem .i64 (std.ib .sub .i64 (std.ib .add .i64 i n) 1) n) zQ=p:=by rw [e1,e2]; exact hf.g0
   have hg1:=hf.g1
   have hg2:std.get Pt ps (std.ib .rem .i64 (std.ib .add .i64 i 1) n) zQ=r:=by rw [e3,e4]; exact hf.g2
   have ko:=hf.co
   have hyes:=hf.yes
   have hno:=hf.no
   have hmu:=hf.mu
   clear hf h hi hlt g
   cbv
   refine Need.mk (by subst hE; exact in1) ?_
   cbv
   refine Need.mk (by subst hE; exact hnz) ?_
   cbv
   refine Need.mk (by subst hE; exact in0) ?_
   cbv
   refine Need.mk (by subst hE; exact hnz) ?_
   cbv
   refine Need.mk (by subst hE; exact in2) ?_
   cbv
   refine CallTo.w hP hE ko ⟨(by subst hE; exact congrArg (fun p:Pt=>p.v) hg0),(by subst hE; exact congrArg (fun p:Pt=>p.v) hg1),(by subst hE; exact congrArg (fun p:Pt=>p.v) hg2),trivial⟩ ?_
   cbv
   refine fork.mk ?_ ?_
   ·intro g1
    have c1:m=0:=by subst hE; simpa [std] using g1
    have hr:=hyes9 i (hyes c1)
    cbv
    exact vj hr
   ·intro g1
    have c1:¬ m=0:=by subst hE; simpa [std] using g1
    have hst:=hno c1
    cbv
    refine ⟨j,[],hst,hmu,?_⟩
    cbv
    subst hE
    and_intros
    all_goals first
     | exact True.intro
     | rfl
     | exact vi e3
     | exact vj e3
     | (simp; done)
  ·intro g
   have hge:¬ i < n:=by subst hE; simpa [std] using g
   have hx:=hfin i hi hge
   clear hi hge hfin hrnd g
   subst hx
   cbv
/-- Why a list of 3 to 64 points is no ring. -/
def chkI (ps:List Pt):Int:=
 if canL ps=true then
  if 0<=flatI (ps.map Pt.q) then 12
  else if crossB (ps.map Pt.q)=true then 13
  else if cmpQ (areaQ (ps.map Pt.q)) 0<=0 then 8
  else if ((firstI (ps.map Pt.q):Nat):Int)=0 then 0 else 8
 else 1
theorem chk_q {k:Nat} {ps:List Pt} (hp:∀ p ∈ ps,IsP k p p.q) (h3:3<=ps.length) (h64:ps.length<=64) (hk:40960*k+40960<=134217728) (hk1:1<=k) (hs:Con Tryz.prog 97 [.v (cr (areaQ (ps.map Pt.q))).v] (.v (.int .i64 (cmpQ (areaQ (ps.map Pt.q)) 0)))):Con Tryz.prog 19 [.ro cP ps] (.v (.int .i64 (chkI ps))):=by
 have hl:ps.length<=4096:=by omega
 have kcan:=canonL_q hp (show k<=134217728 by omega) (show ps.length<=140737488355328 by omega)
 have kflat:=flat_q hp hl (show 16*k+16<=134217728 by omega)
 have kcross:=crossing_q hp hl (show 40*k+40<=134217728 by omega)
 have karea:=area_q hp hl hk hk1
 have kfirst:=first_q hp hl (show 2*k<=134217728 by omega)
 obtain ⟨n,hn⟩:∃ n:Int,n=ps.length:=⟨_,rfl⟩
 have hln:std.len Pt ps=n:=by rw [s_len,hn]
 have tk9:std.tk Pt ps (std.len Pt ps)=ps:=by rw [s_tk,s_len]; exact List.take_of_length_le (by omega)
 have hn3:¬ n < 3:=by omega
 have hn64:¬ 64 < n:=by omega
 obtain ⟨r0,e0⟩:∃ r:Int,r=chkI ps:=⟨_,rfl⟩
 rw [<-e0]
 unfold chkI at e0
 obtain ⟨c,hc⟩:∃ c,c=canL ps:=⟨_,rfl⟩
 obtain ⟨f,hf⟩:∃ c,c=flatI (ps.map Pt.q):=⟨_,rfl⟩
 obtain ⟨x,hx⟩:∃ c,c=crossB (ps.map Pt.q):=⟨_,rfl⟩
 obtain ⟨a,ha⟩:∃ c,c=cr (areaQ (ps.map Pt.q)):=⟨_,rfl⟩
 obtain ⟨m,hm⟩:∃ c,c=cmpQ (areaQ (ps.map Pt.q)) 0:=⟨_,rfl⟩
 obtain ⟨i,hi⟩:∃ c:Int,c=((firstI (ps.map Pt.q):Nat):Int):=⟨_,rfl⟩
 rw [<-hc] at kcan e0
 rw [<-hf] at kflat e0
 rw [<-hx] at kcross e0
 rw [<-ha] at karea hs
 rw [<-hm] at hs e0
 rw [<-hi] at kfirst e0
 clear hc hf hx ha hm hi hp hk hk1 hl h3 h64
 have w1:¬ c=true->r0=1:=fun h=>by rw [e0,if_neg h]
 have w2:c=true->0<=f->r0=12:=fun h h'=>by rw [e0,if_pos h,if_pos h']
 have w3:c=true->¬ 0<=f->x=true->r0=13:=fun h h' h2=>by rw [e0,if_pos h,if_neg h',if_pos h2]
 have w4:c=true->¬ 0<=f->¬ x=true->m<=0->r0=8:=fun h h' h2 h3=>by rw [e0,if_pos h,if_neg h',if_neg h2,if_pos h3]
 have w5:c=true->¬ 0<=f->¬ x=true->¬ m<=0->¬ i=0->r0=8:=fun h h' h2 h3 h4=>by rw [e0,if_pos h,if_neg h',if_neg h2,if_neg h3,if_neg h4]
 have w6:c=true->¬ 0<=f->¬ x=true->¬ m<=0->i=0->r0=0:=fun h h' h2 h3 h4=>by rw [e0,if_pos h,if_neg h',if_neg h2,if_neg h3,if_pos h4]
 clear e0
 refine Con.of ttOk mixed Tryz.func19 {} .nil 0 (by kernel_rfl) (fun P' E hP hE=>?_)
 cbv
 refine fork.mk ?_ ?_
 ·intro g
  exact absurd (show n < 3 by subst hE; rw [<-hln]; simpa [std] using g) hn3
 ·intro g
  clear g
  cbv
  refine fork.mk ?_ ?_
  ·intro g
   exact absurd (show 64 < n by subst hE; rw [<-hln]; simpa [std] using g) hn64
  ·intro g
   clear g
   cbv
   refine CallTo.w hP hE kcan ⟨(by subst hE; exact Sm.of (c:=cP) tk9),trivial⟩ ?_
   cbv
   refine fork.mk ?_ ?_
   ·intro g
    have c1:¬ c=true:=by subst hE; simpa [std] using g
    have hr:=w1 c1
    cbv
    exact vj hr.symm
   ·intro g
    have c1:c=true:=by subst hE; simpa [std] using g
    cbv
    refine CallTo.w hP hE kflat ⟨(by subst hE; exact Sm.of (c:=cP) tk9),trivial⟩ ?_
    cbv
    refine fork.mk ?_ ?_
    ·intro g
     have c2:0<=f:=by subst hE; simpa [std] using g
     have hr:=w2 c1 c2
     cbv
     exact vj hr.symm
    ·intro g
     have c2:¬ 0<=f:=by subst hE; simpa [std] using g
     cbv
     refine CallTo.w hP hE kcross ⟨(by subst hE; exact Sm.of (c:=cP) tk9),trivial⟩ ?_
     cbv
     refine fork.mk ?_ ?_
     ·intro g
      have c3:x=true:=by simpa using g
      have hr:=w3 c1 c2 c3
      cbv
      exact vj hr.symm
     ·intro g
      have c3:¬ x=true:=by simpa using g
      cbv
      refine CallTo.w hP hE karea ⟨(by subst hE; exact Sm.of (c:=cP) tk9),trivial⟩ ?_
      cbv
      refine CallTo.w hP hE hs ⟨rfl,trivial⟩ ?_
      cbv
      refine fork.mk ?_ ?_
      ·intro g
       have c4:m<=0:=by subst hE; simpa [std] using g
       have hr:=w4 c1 c2 c3 c4
       cbv
       exact vj hr.symm
      ·intro g
       have c4:¬ m<=0:=by subst hE; simpa [std] using g
       cbv
       refine CallTo.w hP hE kfirst ⟨(by subst hE; exact Sm.of (c:=cP) tk9),trivial⟩ ?_
       cbv
       refine fork.mk ?_ ?_
       ·intro g
        have c5:¬ i=0:=by subst hE; simpa [std] using g
        have hr:=w5 c1 c2 c3 c4 c5
        cbv
        exact vj hr.symm
       ·intro g
        have c5:i=0:=by subst hE; simpa [std] using g
        have hr:=w6 c1 c2 c3 c4 c5
        cbv
        exact vj hr.symm
/-- Check's answer. -/
def chkA (ps:List Pt):Int:=if ps.length < 3\/64 < ps.length then 4 else chkI ps
theorem area_bd {k:Nat} {l:List Pq} (hl:l.length<=4096) (hp:∀ q ∈ l,BdP k q) (hk1:1<=k):Bd (20480*k+20488) (areaQ l):=by
 have h:=sum_bd hl hp hk1 l.length
 rw [edges_all (Nat.le_refl _)] at h
 exact (h.div (bd_int (n:=2) (by decide))).mono (by omega)
theorem chk_a {k:Nat} {ps:List Pt} (hp:∀ p ∈ ps,IsP k p p.q) (hl:ps.length<=9223372036854775807) (hk:40960*k+40960<=134217728) (hk1:1<=k):Con Tryz.prog 19 [.ro cP ps] (.v (.int .i64 (chkA ps))):=by
 unfold chkA
 by_cases c:ps.length < 3\/64 < ps.length
 ·rw [if_pos c]
  obtain ⟨n,hn⟩:∃ n:Int,n=ps.length:=⟨_,rfl⟩
  have hln:std.len Pt ps=n:=by rw [s_len,hn]
  have c9:¬ n < 3->¬ 64 < n->False:=by omega
  clear hp hl hk hk1 c hn
  refine Con.of ttOk mixed Tryz.func19 {} .nil 0 (by kernel_rfl) (fun P' E hP hE=>?_)
  cbv
  refine fork.mk ?_ ?_
  ·intro g
   cbv
  ·intro g
   have c1:¬ n < 3:=by subst hE; rw [<-hln]; simpa [std] using g
   cbv
   refine fork.mk ?_ ?_
   ·intro g
    cbv
   ·intro g
    have c2:¬ 64 < n:=by subst hE; rw [<-hln]; simpa [std] using g
    exact (c9 c1 c2).elim
 ·rw [if_neg c]
  have h1:3<=ps.length:=by omega
  have h2:ps.length<=64:=by omega
  exact chk_q hp h1 h2 hk hk1 (sign_q (area_bd (by rw [List.length_map]; omega) (pts_bd hp) hk1).is (by omega))
theorem orQ_rng (a b c:Pq) : -1<=orQ a b c/\orQ a b c<=1:=by
 unfold orQ cmpQ; split<;>(try split)<;>decide
theorem mul_rng {x y:Int} (hx : -1<=x/\x<=1) (hy : -1<=y/\y<=1) : -1<=x*y/\x*y<=1:=by
 have h1:x = -1\/x=0\/x=1:=by omega
 have h2:y = -1\/y=0\/y=1:=by omega
 rcases h1 with rfl | rfl | rfl<;>rcases h2 with rfl | rfl | rfl<;>decide
theorem meet10_q {a b c d:Pt} {A B C D:Pq} {k:Nat} (ha:IsP k a A) (hb:IsP k b B) (hc:IsP k c C) (hd:IsP k d D) (hk:16*k+16<=134217728):Con Tryz.prog 198 [.v a.v,.v b.v,.v c.v,.v d.v] (.v (.bool (meetD A B C D))):=by
 obtain ⟨r,er⟩:∃ r,r=meetD A B C D:=⟨_,rfl⟩
 rw [<-er]
 unfold meetD at er
 have q1:=zbtw_q ha hb hc hk
 have q2:=zbtw_q ha hb hd hk
 have q3:=zbtw_q hc hd ha hk
 have q4:=zbtw_q hc hd hb hk
 obtain ⟨o1,e1,k1⟩:=yor_p ha hb hc hk
 obtain ⟨o2,e2,k2⟩:=yor_p ha hb hd hk
 obtain ⟨o3,e3,k3⟩:=yor_p hc hd ha hk
 obtain ⟨o4,e4,k4⟩:=yor_p hc hd hb hk
 obtain ⟨b1,eb1⟩:∃ b,b=btwQ A B C:=⟨_,rfl⟩
 obtain ⟨b2,eb2⟩:∃ b,b=btwQ A B D:=⟨_,rfl⟩
 obtain ⟨b3,eb3⟩:∃ b,b=btwQ C D A:=⟨_,rfl⟩
 obtain ⟨b4,eb4⟩:∃ b,b=btwQ C D B:=⟨_,rfl⟩
 rw [<-eb1] at q1 er
 rw [<-eb2] at q2 er
 rw [<-eb3] at q3 er
 rw [<-eb4] at q4 er
 have r1:=mul_rng (orQ_rng A B C) (orQ_rng A B D)
 have r2:=mul_rng (orQ_rng C D A) (orQ_rng C D B)
 rw [<-e1,<-e2] at r1 er
 rw [<-e3,<-e4] at r2 er
 have m1:std.ib .mul .i64 o1 o2=o1*o2:=by rw [s_mul,w64 (by omega) (by omega)]
 have m2:std.ib .mul .i64 o3 o4=o3*o4:=by rw [s_mul,w64 (by omega) (by omega)]
 have w1:b1=true->true=r:=fun h=>by rw [er,h]; rfl
 have w2:¬ b1=true->b2=true->true=r:=fun h h2=>by rw [er,h2]; simp
 have w3:¬ b1=true->¬ b2=true->b3=true->true=r:=fun h h1 h2=>by rw [er,h2]; simp
 have w4:¬ b1=true->¬ b2=true->¬ b3=true->b4=true->true=r:=fun h h1 h2 h3=>by rw [er,h3]; simp
 have w5:¬ b1=true->¬ b2=true->¬ b3=true->¬ b4=true->¬ o1*o2 < 0->false=r:=fun h h1 h2 h3 h4=>by
  rw [er,decide_eq_false h4]; simp at h h1 h2 h3; rw [h,h1,h2,h3]; rfl
 have w6:¬ b1=true->¬ b2=true->¬ b3=true->¬ b4=true->o1*o2 < 0->decide (o3*o4 < 0)=r:=fun h h1 h2 h3 h4=>by
  rw [er,decide_eq_true h4]; simp at h h1 h2 h3; rw [h,h1,h2,h3]; rfl
 clear er e1 e2 e3 e4 eb1 eb2 eb3 eb4 r1 r2 ha hb hc hd
 refine Con.of ttOk mixed Tryz.func198 { ord:=[(3,[0,1,2,4,5,6,3,7,8,9,10,11,12,13,15,16,17,14,18,19,20,21,22])] } .nil 0 (by kernel_rfl) (fun P' E hP hE=>?_)
 cbv
 refine CallTo.w hP hE q1 ⟨rfl,rfl,rfl,trivial⟩ ?_
 cbv
 refine fork.mk ?_ ?_
 ·intro g
  have hr:=w1 (by simpa using g)
  cbv
  exact congrArg Value.bool hr
 intro g
 have c1:¬ b1=true:=by simpa using g
 cbv
 refine CallTo.w hP hE q2 ⟨rfl,rfl,rfl,trivial⟩ ?_
 cbv
 refine fork.mk ?_ ?_
 ·intro g
  have hr:=w2 c1 (by simpa using g)
  cbv
  exact congrArg Value.bool hr
 intro g
 have c2:¬ b2=true:=by simpa using g
 cbv
 refine CallTo.w hP hE q3 ⟨rfl,rfl,rfl,trivial⟩ ?_
 cbv
 refine fork.mk ?_ ?_
 ·intro g
  have hr:=w3 c1 c2 (by simpa using g)
  cbv
  exact congrArg Value.bool hr
 intro g
 have c3:¬ b3=true:=by simpa using g
 cbv
 refine CallTo.w hP hE q4 ⟨rfl,rfl,rfl,trivial⟩ ?_
 cbv
 refine fork.mk ?_ ?_
 ·intro g
  have hr:=w4 c1 c2 c3 (by simpa using g)
  cbv
  exact congrArg Value.bool hr
 intro g
 have c4:¬ b4=true:=by simpa using g
 have w5:=w5 c1 c2 c3 c4
 have w6:=w6 c1 c2 c3 c4
 cbv
 refine CallTo.w hP hE k1 ⟨rfl,rfl,rfl,trivial⟩ ?_
 cbv
 refine CallTo.w hP hE k2 ⟨rfl,rfl,rfl,trivial⟩ ?_
 cbv
 refine fork.mk ?_ ?_
 ·intro g
  have hr:=w6 (by
   subst hE
   have g:decide (std.ib .mul .i64 o1 o2 < 0)=true:=g
   rw [m1] at g; simpa using g)
  cbv
  refine CallTo.w hP hE k3 ⟨rfl,rfl,rfl,trivial⟩ ?_
  cbv
  refine CallTo.w hP hE k4 ⟨rfl,rfl,rfl,trivial⟩ ?_
  cbv
  subst hE
  refine congrArg Value.bool (Eq.trans ?_ hr)
  show decide (std.ib .mul .i64 o3 o4 < 0)=_
  rw [m2]
 ·intro g
  have hr:=w5 (by
   subst hE
   have g:decide (std.ib .mul .i64 o1 o2 < 0)=false:=g
   rw [m1] at g; simpa using g)
  cbv
  exact congrArg Value.bool hr
structure CrsR (ps:List Pt) (n i k kr:Int) (p q r s:Pt) (b:Bool) (k':Int):Prop where
 in1:0<=i/\i < (ps.length:Int)
 in2:0<=k/\k < (ps.length:Int)
 nz:n ≠ 0
 add:std.ib .add .i64 k 1=k'
 rem:std.ib .rem .i64 k' n=kr
 g1:std.get Pt ps i zQ=p
 g2:std.get Pt ps k zQ=r
 ki:Con Tryz.prog 177 [.ro cP ps,.v (.int .i64 i)] (.v q.v)
 kk:Con Tryz.prog 177 [.ro cP ps,.v (.int .i64 k)] (.v s.v)
 c:Con Tryz.prog 198 [.v p.v,.v q.v,.v r.v,.v s.v] (.v (.bool b))
 hit:kr ≠ i->b=true->crossB (ps.map Pt.q)=true
 no:¬ b=true->CrsJ ps n i k'
 skip:kr=i->CrsJ ps n i k'
 mu:(n - k').toNat < (n - k).toNat
theorem crsR_ex {k0:Nat} {ps:List Pt} (hp:∀ p ∈ ps,IsP k0 p p.q) (hl:ps.length<=4096) (hk:16*k0+16<=134217728) (hnd:∀ i,i < ps.length->(edgeQ (ps.map Pt.q) i).a ≠ (edgeQ (ps.map Pt.q) i).b) {n i k:Int} (hn:n=(ps.length:Int)) (h0:0<=i) (h:CrsJ ps n i k) (hi:i < n) (hkn:k < n):∃ kr p q r s b k',CrsR ps n i k kr p q r s b k':=by
 have hk0:=h.h0
 have b1:i.toNat < ps.length:=by omega
 have b2:k.toNat < ps.length:=by omega
 obtain ⟨j1,r1,p,q,he1⟩:=edgF_ex hn hl h0 hi
 obtain ⟨j2,r2,r,s,he2⟩:=edgF_ex (i:=k) hn hl (by omega) hkn
 have hm:=meet10_q (hp p he1.m1) (hp q he1.m2) (hp r he2.m1) (hp s he2.m2) hk
 have n1:=hnd _ b1
 have n2:=hnd _ b2
 have ee1:=he1.e
 have ee2:=he2.e
 rw [ee1] at n1
 rw [ee2] at n2
 have hmb:=meetD_eq n1 n2
 have hca:crossAt (ps.map Pt.q) i.toNat k.toNat=(!(decide (i.toNat=0) && decide (k.toNat=ps.length - 1)) && meetD p.q q.q r.q s.q):=by
  unfold crossAt; rw [List.length_map,ee1,ee2,hmb]
 have ek:j2=k+1:=by have:=he2.add; rw [s_add,w64 (by omega) (by omega)] at this; omega
 have ekr:r2=(((k.toNat+1) % ps.length:Nat):Int):=by
  have h1:=he2.rem
  rw [s_rem,Int.tmod_eq_emod_of_nonneg he2.j0,hn,ek] at h1
  have e:((k+1) % (ps.length:Int))=(((k.toNat+1) % ps.length:Nat):Int):=by rw [Int.natCast_emod]; congr 1; omega
  rw [e] at h1
  exact h1.symm
 have hskip:r2=i ↔ i.toNat=0/\k.toNat=ps.length - 1:=by
  rw [ekr]
  by_cases c:k.toNat+1=ps.length
  ·rw [c,Nat.mod_self]; omega
  ·rw [Nat.mod_eq_of_lt (by omega)]; omega
 have hup:crossAt (ps.map Pt.q) i.toNat k.toNat=false->CrsJ ps n i j2:=fun hc=>⟨by omega,fun c h1 h2 h3=>by
  by_cases e:c=k.toNat
  ·rw [e]; exact hc
  ·exact h.no c h1 (by omega) h3⟩
 refine ⟨r2,p,q,r,s,meetD p.q q.q r.q s.q,j2,⟨(edgF_q hn he1).1,(edgF_q hn he2).1,he2.nz,he2.add,he2.rem,he1.g1,he2.g1,next_q hn he1,next_q hn he2,hm,fun hne hb=>?_,fun hb=>hup ?_,fun hs=>hup ?_,he2.mu⟩⟩
 ·unfold crossB
  rw [List.any_eq_true]
  refine ⟨i.toNat,by simp; omega,?_⟩
  rw [List.any_eq_true]
  refine ⟨k.toNat,by simp; omega,?_⟩
  rw [hca,hb,Bool.and_true,Bool.and_eq_true]
  refine ⟨decide_eq_true (by omega),?_⟩
  have:¬ (i.toNat=0/\k.toNat=ps.length - 1):=fun c=>hne (hskip.2 c)
  rw [Bool.not_eq_true',Bool.and_eq_false_iff,decide_eq_false_iff_not,decide_eq_false_iff_not]
  omega
 ·rw [hca]
  rw [Bool.not_eq_true] at hb
  rw [hb,Bool.and_false]
 ·have:=hskip.1 hs
  rw [hca,decide_eq_true this.1,decide_eq_true this.2]; rfl
theorem ycrossing_q {k0:Nat} {ps:List Pt} (hp:∀ p ∈ ps,IsP k0 p p.q) (hl:ps.length<=4096) (hk:16*k0+16<=134217728) (hnd:∀ i,i < ps.length->(edgeQ (ps.map Pt.q) i).a ≠ (edgeQ (ps.map Pt.q) i).b):Con Tryz.prog 102 [.ro cP ps] (.v (.bool (crossB (ps.map Pt.q)))):=by
 obtain ⟨r0,e0⟩:∃ r,r=crossB (ps.map Pt.q):=⟨_,rfl⟩
 rw [<-e0]
 obtain ⟨n,hn⟩:∃ n:Int,n=ps.length:=⟨_,rfl⟩
 have hln:std.len Pt ps=n:=by rw [s_len,hn]
 obtain ⟨i0,hi0⟩:∃ i:Int,i=0:=⟨_,rfl⟩
 have tk9:std.tk Pt ps (std.len Pt ps)=ps:=by rw [s_tk,s_len]; exact List.take_of_length_le (by omega)
 have hp0:CrsO ps n i0:=⟨by omega,by omega,fun a ha=>by rw [hi0] at ha; exact absurd ha (Nat.not_lt_zero _)⟩
 have hn4:n<=4096:=by omega
 have hrnd:∀ i k,0<=i->i < n->CrsJ ps n i k->k < n->∃ kr p q r s b k',CrsR ps n i k kr p q r s b k':=fun i k h0 hi h h'=>crsR_ex hp hl hk hnd hn h0 h hi h'
 have hyes9:crossB (ps.map Pt.q)=true->true=r0:=fun h=>by rw [e0,h]
 have hfin:∀ i,CrsO ps n i->¬ i < n->false=r0:=fun i h h'=>by rw [e0,cross_no hn h h']
 have hstart:∀ i k0:Int,CrsO ps n i->i < n->k0=i+2->CrsJ ps n i k0:=fun i k0 h h' e=>⟨by omega,fun b h1 h2 h3=>by omega⟩
 have hnext:∀ i k i':Int,CrsO ps n i->i < n->CrsJ ps n i k->¬ k < n->i'=i+1->CrsO ps n i':=fun i k i' h hi h' hk e=>⟨by have:=h.h0; omega,by omega,fun a ha b hb hb2=>by
  have:=h.h0
  by_cases c:a=i.toNat
  ·rw [c]; exact h'.no b (by omega) (by omega) hb2
  ·exact h.no a (by omega) b hb hb2⟩
 clear e0 hp hl hk hnd
 refine Con.of ttOk mixed Tryz.func102 { ord:=[(8,[0,1,2,3,4,5,6,7,8,9,10,11,12,14,15,16,17,18,19,13,20,21,22])] } .nil 0 (by kernel_rfl) (fun P' E hP hE=>?_)
 cbv
 refine LoopTo.by (ι:=Int) (fun x=>[(4,.v (.int .i64 x))]) (fun x=>[]) (fun x=>CrsO ps n x) (fun x=>(n - x).toNat) i0 [] hp0 ?_ ?_
 ·cbv
  subst hE
  and_intros
  all_goals first
   | exact True.intro
   | rfl
   | exact vi hi0.symm
   | exact vj hi0.symm
   | (simp; done)
 ·intro i hi
  have hi:CrsO ps n i:=hi
  clear hp0
  cbv
  refine fork.mk ?_ ?_
  ·intro g
   have hn4:n<=4096:=hn4
   have hlt:i < n:=by subst hE; rw [<-hln]; simpa [std] using g
   have h0:=hi.h0
   obtain ⟨k0,hk0⟩:∃ k,k=i+2:=⟨_,rfl⟩
   have hk0E:std.ib .add .i64 i 2=k0:=by rw [s_add,w64 (by omega) (by omega),hk0]
   have hJ0:=hstart i k0 hi hlt hk0
   obtain ⟨i2,hi2⟩:∃ j,j=i+1:=⟨_,rfl⟩
   have hi2E:std.ib .add .i64 i 1=i2:=by rw [s_add,w64 (by omega) (by omega),hi2]
   have hmu2:(n - i2).toNat < (n - i).toNat:=by omega
   have hnext2:∀ k,CrsJ ps n i k->¬ k < n->CrsO ps n i2:=fun k h1 h2=>hnext i k i2 hi hlt h1 h2 hi2
   have hrnd2:∀ k,CrsJ ps n i k->k < n->∃ kr p q r s b k',CrsR ps n i k kr p q r s b k':=fun k h h'=>hrnd i k h0 hlt h h'
   clear hk0 hi2 hstart g hnext hrnd hfin
   cbv
   refine LoopTo.by (ι:=Int) (fun x=>[(5,.v (.int .i64 x))]) (fun x=>[]) (fun x=>CrsJ ps n i x) (fun x=>(n - x).toNat) k0 [] hJ0 ?_ ?_
   ·cbv
    subst hE
    and_intros
    all_goals first
     | exact True.intro
     | rfl
     | exact vi hk0E
     | exact vj hk0E
     | (simp; done)
   ·intro k hk
    have hk:CrsJ ps n i k:=hk
    clear hJ0
    cbv
    refine fork.mk ?_ ?_
    ·intro g2
     have hkn:k < n:=by subst hE; rw [<-hln]; simpa [std] using g2
     refine Exists.elim (hrnd2 k hk hkn) ?_
     intro kr h
     refine Exists.elim h ?_
     intro p h
     refine Exists.elim h ?_
     intro q h
     refine Exists.elim h ?_
     intro r h
     refine Exists.elim h ?_
     intro s h
     refine Exists.elim h ?_
     intro b h
     refine Exists.elim h ?_
     intro k' hf
     have in1:=hf.in1
     have in2:=hf.in2
     have hnz:std.nz .rem (std.len Pt ps):=by rw [hln]; exact hf.nz
     have hadd:=hf.add
     have hrem:std.ib .rem .i64 (std.ib .add .i64 k 1) (std.len Pt ps)=kr:=by rw [hln,hadd]; exact hf.rem
     have hg1:=hf.g1
     have hg2:=hf.g2
     have ki:=hf.ki
     have kk:=hf.kk
     have km:=hf.c
     have hhit:=hf.hit
     have hno:=hf.no
     have hskip:=hf.skip
     have hmu:=hf.mu
     clear hf h hk hkn g2 hnext2 hrnd2
     cbv
     refine Need.mk (by subst hE; exact hnz) ?_
     cbv
     refine fork.mk ?_ ?_
     ·intro g3
      have hne:kr ≠ i:=by
       subst hE
       have g3:std.ic .neq (std.ib .rem .i64 (std.ib .add .i64 k 1) (std.len Pt ps)) i=true:=g3
       rw [hrem] at g3; simpa using g3
      cbv
      refine Need.mk (by subst hE; exact in1) ?_
      cbv
      refine Need.mk (by subst hE; exact in2) ?_
      cbv
      refine CallTo.w hP hE ki ⟨(by subst hE; exact Sm.of (c:=cP) tk9),rfl,trivial⟩ ?_
      cbv
      refine CallTo.w hP hE kk ⟨(by subst hE; exact Sm.of (c:=cP) tk9),rfl,trivial⟩ ?_
      cbv
      refine CallTo.w hP hE km ⟨(by subst hE; exact congrArg (fun p:Pt=>p.v) hg1),rfl,(by subst hE; exact congrArg (fun p:Pt=>p.v) hg2),rfl,trivial⟩ ?_
      cbv
      refine fork.mk ?_ ?_
      ·intro g9
       have hr:=hyes9 (hhit hne (by simpa using g9))
       cbv
       exact congrArg Value.bool hr
      ·intro g9
       have hst:=hno (by simpa using g9)
       cbv
       refine ⟨k',[],hst,hmu,?_⟩
       cbv
       subst hE
       and_intros
       all_goals first
        | exact True.intro
        | rfl
        | exact vi hadd
        | exact vj hadd
        | (simp; done)
     ·intro g3
      have hst:=hskip (by
       subst hE
       have g3:std.ic .neq (std.ib .rem .i64 (std.ib .add .i64 k 1) (std.len Pt ps)) i=false:=g3
       rw [hrem] at g3; simpa using g3)
      cbv
      refine ⟨k',[],hst,hmu,?_⟩
      cbv
      subst hE
      and_intros
      all_goals first
       | exact True.intro
       | rfl
       | exact vi hadd
       | exact vj hadd
       | (simp; done)
    ·intro g2
     have hge:¬ k < n:=by subst hE; rw [<-hln]; simpa [std] using g2
     have hst:=hnext2 k hk hge
     cbv
     refine ⟨i2,[],hst,hmu2,?_⟩
     cbv
     subst hE
     and_intros
     all_goals first
      | exact True.intro
      | rfl
      | exact vi hi2E
      | exact vj hi2E
      | (simp; done)
  ·intro g
   have hge:¬ i < n:=by subst hE; rw [<-hln]; simpa [std] using g
   have hr:=hfin i hi hge
   cbv
   exact congrArg Value.bool hr
def eqL:List Pt->List Pt->Bool
 | [],[]=>true
 | p::a,q::b=>eqCells p.c q.c && eqL a b
 | _,_=>false
theorem eqL_iff:∀ {a b:List Pt},eqL a b=true ↔ a=b
 | [],[]=>by simp [eqL]
 | [],_::_=>by simp [eqL]
 | _::_,[]=>by simp [eqL]
 | p::a,q::b=>by
  rw [eqL,Bool.and_eq_true,eqL_iff,eqc_P,List.cons.injEq]
structure SamI (a b:List Pt) (n i:Int):Prop where
 h0:0<=i
 h1:i<=n
 eq:a.take i.toNat=b.take i.toNat
structure SamF (a b:List Pt) (n i j:Int) (p q:Pt):Prop where
 in1:0<=i/\i < (a.length:Int)
 in2:0<=i/\i < (b.length:Int)
 add:std.ib .add .i64 i 1=j
 g1:std.get Pt a i zQ=p
 g2:std.get Pt b i zQ=q
 yes:p=q->SamI a b n j
 no:¬ p=q->a ≠ b
 mu:(n - j).toNat < (n - i).toNat
theorem samF_ex {a b:List Pt} {n i:Int} (ha:n=(a.length:Int)) (hb:n=(b.length:Int)) (hl:a.length<=140737488355328) (h:SamI a b n i) (hi:i < n):∃ j p q,SamF a b n i j p q:=by
 have h0:=h.h0
 obtain ⟨j,p,hp⟩:=lstF_ex ha hl h0 hi
 obtain ⟨j',q,hq⟩:=lstF_ex hb (by omega) h0 hi
 have ej:j'=j:=by rw [hp.ej,hq.ej]
 subst ej
 refine ⟨j',p,q,hp.in1,hq.in1,hp.add,hp.g1,hq.g1,fun e=>⟨hp.j0,hp.j1,by rw [hp.tk,hq.tk,h.eq,e]⟩,fun e e2=>?_,hp.mu⟩
 have h9:=hp.tk
 rw [e2,hq.tk] at h9
 exact e (by simpa using h9.symm)
theorem same_q (a b:List Pt) (hl:a.length<=140737488355328):Con Tryz.prog 22 [.ro cP a,.ro cP b] (.v (.bool (eqL a b))):=by
 obtain ⟨r,hr⟩:∃ r,r=eqL a b:=⟨_,rfl⟩
 rw [<-hr]
 have hrt:a=b->r=true:=fun e=>by rw [hr]; exact eqL_iff.2 e
 have hrf:¬ a=b->r=false:=fun e=>by rw [hr,<-Bool.not_eq_true]; exact fun c=>e (eqL_iff.1 c)
 obtain ⟨n,hn⟩:∃ n:Int,n=a.length:=⟨_,rfl⟩
 obtain ⟨m,hm⟩:∃ n:Int,n=b.length:=⟨_,rfl⟩
 have hln:std.len Pt a=n:=by rw [s_len,hn]
 have hlm:std.len Pt b=m:=by rw [s_len,hm]
 obtain ⟨i0,hi0⟩:∃ i:Int,i=0:=⟨_,rfl⟩
 have hp0:SamI a b n i0:=⟨by omega,by omega,by rw [hi0]; rfl⟩
 have w1:¬ n=m->r=false:=fun h=>hrf (fun e=>h (by rw [hn,hm,e]))
 have hrnd:n=m->∀ i,SamI a b n i->i < n->∃ j p q,SamF a b n i j p q:=fun e i h h'=>samF_ex hn (by omega) hl h h'
 have hfin:n=m->∀ i,SamI a b n i->¬ i < n->r=true:=fun e i h h'=>hrt (by
  have h9:=h.eq
  have:=h.h1
  rw [List.take_of_length_le (by omega),List.take_of_length_le (by omega)] at h9
  exact h9)
 clear hr
 refine Con.of ttOk mixed Tryz.func22 {} (InlOk.cons (g:={ ord:=[(6,[0,1,2,3,4,5,6,7,8])] }) Tryz.func109 (by kernel_rfl) .nil) 2 (by kernel_rfl) (fun P' E hP hE=>?_)
 cbv
 refine fork.mk ?_ ?_
 ·intro g
  have c1:¬ n=m:=by subst hE; rw [<-hln,<-hlm]; simpa [std] using g
  have hx:=w1 c1
  cbv
  exact congrArg Value.bool hx.symm
 ·intro g
  have c1:n=m:=by subst hE; rw [<-hln,<-hlm]; simpa [std] using g
  have hrnd:=hrnd c1
  have hfin:=hfin c1
  clear g w1 hrt
  cbv
  refine LoopTo.by (ι:=Int) (fun x=>[(12,.v (.int .i64 n)),(13,.v (.int .i64 x))]) (fun x=>[]) (fun x=>SamI a b n x) (fun x=>(n - x).toNat) i0 [] hp0 ?_ ?_
  ·cbv
   subst hE
   and_intros
   all_goals first
    | exact True.intro
    | rfl
    | exact vi hn.symm
    | exact vj hi0.symm
    | (simp; done)
  ·intro i hi
   have hi:SamI a b n i:=hi
   clear hp0
   cbv
   refine fork.mk ?_ ?_
   ·intro g
    have hlt:i < n:=by subst hE; simpa [std] using g
    refine Exists.elim (hrnd i hi hlt) ?_
    intro j h
    refine Exists.elim h ?_
    intro p h
    refine Exists.elim h ?_
    intro q hf
    have in1:=hf.in1
    have in2:=hf.in2
    have hadd:=hf.add
    have hg1:=hf.g1
    have hg2:=hf.g2
    have hyes:=hf.yes
    have hno:=hf.no
    have hmu:=hf.mu
    have hrf:a ≠ b->r=false:=hrf
    clear hf h hi hlt g hrnd hfin
    cbv
    refine Need.mk (by subst hE; exact in1) ?_
    cbv
    refine Need.mk (by subst hE; exact in2) ?_
    cbv
    refine fork.mk ?_ ?_
    ·intro g
     have c2:¬ p=q:=by
      subst hE
      have g:(!eqCells (std.get Pt a i zQ).c (std.get Pt b i zQ).c)=true:=g
      rw [hg1,hg2] at g
      exact fun e=>by rw [(eqc_P p q).2 e] at g; exact absurd g (by decide)
     have hx:=hrf (hno c2)
     cbv
     exact congrArg Value.bool hx.symm
    ·intro g
     have c2:p=q:=by
      subst hE
      have g:(!eqCells (std.get Pt a i zQ).c (std.get Pt b i zQ).c)=false:=g
      rw [hg1,hg2] at g
      exact (eqc_P p q).1 (by simpa using g)
     have hst:=hyes c2
     cbv
     refine ⟨j,[],hst,hmu,?_⟩
     cbv
     subst hE
     and_intros
     all_goals first
      | exact True.intro
      | rfl
      | exact vi hadd
      | exact vj hadd
      | (simp; done)
   ·intro g
    have hge:¬ i < n:=by subst hE; simpa [std] using g
    have hx:=hfin i hi hge
    clear hi hge hfin hrnd g
    cbv
    exact congrArg Value.bool hx.symm
theorem nd_of {l:List Pq} (hf:flatB l=false):∀ i,i < l.length->(edgeQ l i).a ≠ (edgeQ l i).b:=by
 intro i hi c
 unfold flatB at hf
 rw [List.any_eq_false] at hf
 apply hf i (by simpa using hi)
 unfold flatAt
 rw [decide_eq_true_iff]
 unfold orQ
 rw [cmpQ_eq]
 unfold edgeQ at c
 simp only at c
 rw [<-c]
 simp only [Pq.cross,Pq.sub]; grind
theorem ychk_a {k:Nat} {ps:List Pt} (hp:∀ p ∈ ps,IsP k p p.q) (hl:ps.length<=9223372036854775807) (hk:40960*k+40960<=134217728) (hk1:1<=k):Con Tryz.prog 20 [.ro cP ps] (.v (.int .i64 (chkA ps))):=by
 obtain ⟨n,hn⟩:∃ n:Int,n=ps.length:=⟨_,rfl⟩
 have hln:std.len Pt ps=n:=by rw [s_len,hn]
 have tk9:std.tk Pt ps (std.len Pt ps)=ps:=by rw [s_tk,s_len]; exact List.take_of_length_le (by omega)
 obtain ⟨r0,e0⟩:∃ r:Int,r=chkA ps:=⟨_,rfl⟩
 rw [<-e0]
 obtain ⟨c,hc⟩:∃ c,c=canL ps:=⟨_,rfl⟩
 obtain ⟨f,hf⟩:∃ c,c=flatB (ps.map Pt.q):=⟨_,rfl⟩
 obtain ⟨x,hx⟩:∃ c,c=crossB (ps.map Pt.q):=⟨_,rfl⟩
 obtain ⟨a,ha⟩:∃ c,c=cr (areaQ (ps.map Pt.q)):=⟨_,rfl⟩
 obtain ⟨m,hm⟩:∃ c,c=cmpQ (areaQ (ps.map Pt.q)) 0:=⟨_,rfl⟩
 obtain ⟨i,hi⟩:∃ c:Int,c=((firstI (ps.map Pt.q):Nat):Int):=⟨_,rfl⟩
 have kcan:¬ 64 < n->Con Tryz.prog 100 [.ro cP ps] (.v (.bool c)):=fun h=>by rw [hc]; exact ycanL_q hp (by omega) (by omega)
 have kstr:¬ 64 < n->Con Tryz.prog 107 [.ro cP ps] (.v (.bool f)):=fun h=>by rw [hf]; exact straight_q hp (by omega) (by omega)
 have kcrs:¬ 64 < n->¬ f=true->Con Tryz.prog 102 [.ro cP ps] (.v (.bool x)):=fun h h'=>by
  rw [hx]
  refine ycrossing_q hp (by omega) (by omega) (fun j hj=>?_)
  exact nd_of (by rw [<-hf]; simpa using h') j (by rw [List.length_map]; exact hj)
 have kare:¬ 64 < n->Con Tryz.prog 85 [.ro cP ps] (.v a.v):=fun h=>by rw [ha]; exact yarea_q hp (by omega) hk hk1
 have ksgn:¬ 64 < n->Con Tryz.prog 103 [.v a.v] (.v (.int .i64 m)):=fun h=>by
  rw [ha,hm]
  exact xsign_q (area_bd (by rw [List.length_map]; omega) (pts_bd hp) hk1).is (by omega)
 have klst:¬ n < 3->¬ 64 < n->Con Tryz.prog 105 [.ro cP ps] (.v (.int .i64 i)):=fun h h'=>by rw [hi]; exact least_q hp (by omega) (by omega) (by omega)
 have w1:n < 3->4=r0:=fun h=>by rw [e0,chkA,if_pos (Or.inl (by omega))]
 have w2:64 < n->4=r0:=fun h=>by rw [e0,chkA,if_pos (Or.inr (by omega))]
 have e1:¬ n < 3->¬ 64 < n->r0=chkI ps:=fun h h'=>by rw [e0,chkA,if_neg (by omega)]
 unfold chkI at e1
 rw [<-hc,<-hx,<-hm,<-hi] at e1
 have hfl:0<=flatI (ps.map Pt.q) ↔ f=true:=by rw [hf]; exact flatI_iff _
 have har:¬ n < 3->¬ f=true->¬ x=true->¬ m=0:=fun h h1 h2 h3=>by
  refine ring_area (l:=ps.map Pt.q) (by rw [List.length_map]; omega) (fun c=>h1 (hfl.1 c)) (by rw [<-hx]; exact h2) ?_
  rw [hm,cmpQ_eq] at h3; exact h3
 have w3:¬ n < 3->¬ 64 < n->¬ c=true->1=r0:=fun h h' h1=>by rw [e1 h h',if_neg h1]
 have w4:¬ n < 3->¬ 64 < n->c=true->f=true->12=r0:=fun h h' h1 h2=>by rw [e1 h h',if_pos h1,if_pos (hfl.2 h2)]
 have w5:¬ n < 3->¬ 64 < n->c=true->¬ f=true->x=true->13=r0:=fun h h' h1 h2 h3=>by rw [e1 h h',if_pos h1,if_neg (fun c=>h2 (hfl.1 c)),if_pos h3]
 have w6:¬ n < 3->¬ 64 < n->c=true->¬ f=true->¬ x=true->m < 0->8=r0:=fun h h' h1 h2 h3 h4=>by rw [e1 h h',if_pos h1,if_neg (fun c=>h2 (hfl.1 c)),if_neg h3,if_pos (by omega)]
 have w7:¬ n < 3->¬ 64 < n->c=true->¬ f=true->¬ x=true->¬ m < 0->¬ i=0->8=r0:=fun h h' h1 h2 h3 h4 h5=>by
  have:=har h h2 h3
  rw [e1 h h',if_pos h1,if_neg (fun c=>h2 (hfl.1 c)),if_neg h3,if_neg (by omega),if_neg h5]
 have w8:¬ n < 3->¬ 64 < n->c=true->¬ f=true->¬ x=true->¬ m < 0->i=0->0=r0:=fun h h' h1 h2 h3 h4 h5=>by
  have:=har h h2 h3
  rw [e1 h h',if_pos h1,if_neg (fun c=>h2 (hfl.1 c)),if_neg h3,if_neg (by omega),if_pos h5]
 clear e0 e1 hc hf hx ha hm hi hp hk hk1 hl hfl har
 refine Con.of ttOk mixed Tryz.func20 {} .nil 0 (by kernel_rfl) (fun P' E hP hE=>?_)
 cbv
 refine fork.mk ?_ ?_
 ·intro g
  have hr:=w1 (by subst hE; rw [<-hln]; simpa [std] using g)
  cbv
  exact vj hr
 intro g
 have c1:¬ n < 3:=by subst hE; rw [<-hln]; simpa [std] using g
 clear g w1
 cbv
 refine fork.mk ?_ ?_
 ·intro g
  have hr:=w2 (by subst hE; rw [<-hln]; simpa [std] using g)
  cbv
  exact vj hr
 intro g
 have c2:¬ 64 < n:=by subst hE; rw [<-hln]; simpa [std] using g
 have kcan:=kcan c2
 have kstr:=kstr c2
 have kcrs:=kcrs c2
 have kare:=kare c2
 have ksgn:=ksgn c2
 have klst:=klst c1 c2
 have w3:=w3 c1 c2
 have w4:=w4 c1 c2
 have w5:=w5 c1 c2
 have w6:=w6 c1 c2
 have w7:=w7 c1 c2
 have w8:=w8 c1 c2
 clear g w2
 cbv
 refine CallTo.w hP hE kcan ⟨(by subst hE; exact Sm.of (c:=cP) tk9),trivial⟩ ?_
 cbv
 refine fork.mk ?_ ?_
 ·intro g
  have hr:=w3 (by subst hE; simpa [std] using g)
  cbv
  exact vj hr
 intro g
 have c3:c=true:=by subst hE; simpa [std] using g
 cbv
 refine CallTo.w hP hE kstr ⟨(by subst hE; exact Sm.of (c:=cP) tk9),trivial⟩ ?_
 cbv
 refine fork.mk ?_ ?_
 ·intro g
  have hr:=w4 c3 (by simpa using g)
  cbv
  exact vj hr
 intro g
 have c4:¬ f=true:=by simpa using g
 have kcrs:=kcrs c4
 cbv
 refine CallTo.w hP hE kcrs ⟨(by subst hE; exact Sm.of (c:=cP) tk9),trivial⟩ ?_
 cbv
 refine fork.mk ?_ ?_
 ·intro g
  have hr:=w5 c3 c4 (by simpa using g)
  cbv
  exact vj hr
 intro g
 have c5:¬ x=true:=by simpa using g
 cbv
 refine CallTo.w hP hE kare ⟨(by subst hE; exact Sm.of (c:=cP) tk9),trivial⟩ ?_
 cbv
 refine CallTo.w hP hE ksgn ⟨rfl,trivial⟩ ?_
 cbv
 refine fork.mk ?_ ?_
 ·intro g
  have hr:=w6 c3 c4 c5 (by subst hE; simpa [std] using g)
  cbv
  exact vj hr
 intro g
 have c6:¬ m < 0:=by subst hE; simpa [std] using g
 cbv
 refine CallTo.w hP hE klst ⟨(by subst hE; exact Sm.of (c:=cP) tk9),trivial⟩ ?_
 cbv
 refine fork.mk ?_ ?_
 ·intro g
  have hr:=w7 c3 c4 c5 c6 (by subst hE; simpa [std] using g)
  cbv
  exact vj hr
 ·intro g
  have hr:=w8 c3 c4 c5 c6 (by subst hE; simpa [std] using g)
  cbv
  exact vj hr
theorem ysame_q (a b:List Pt) (hl:a.length<=140737488355328):Con Tryz.prog 21 [.ro cP a,.ro cP b] (.v (.bool (eqL a b))):=by
 obtain ⟨r,hr⟩:∃ r,r=eqL a b:=⟨_,rfl⟩
 rw [<-hr]
 have hrt:a=b->r=true:=fun e=>by rw [hr]; exact eqL_iff.2 e
 have hrf:¬ a=b->r=false:=fun e=>by rw [hr,<-Bool.not_eq_true]; exact fun c=>e (eqL_iff.1 c)
 obtain ⟨n,hn⟩:∃ n:Int,n=a.length:=⟨_,rfl⟩
 obtain ⟨m,hm⟩:∃ n:Int,n=b.length:=⟨_,rfl⟩
 have hln:std.len Pt a=n:=by rw [s_len,hn]
 have hlm:std.len Pt b=m:=by rw [s_len,hm]
 obtain ⟨i0,hi0⟩:∃ i:Int,i=0:=⟨_,rfl⟩
 have hp0:SamI a b n i0:=⟨by omega,by omega,by rw [hi0]; rfl⟩
 have w1:¬ n=m->r=false:=fun h=>hrf (fun e=>h (by rw [hn,hm,e]))
 have hrnd:n=m->∀ i,SamI a b n i->i < n->∃ j p q,SamF a b n i j p q:=fun e i h h'=>samF_ex hn (by omega) hl h h'
 have hfin:n=m->∀ i,SamI a b n i->¬ i < n->r=true:=fun e i h h'=>hrt (by
  have h9:=h.eq
  have:=h.h1
  rw [List.take_of_length_le (by omega),List.take_of_length_le (by omega)] at h9
  exact h9)
 clear hr
 refine Con.of ttOk mixed Tryz.func21 {} (InlOk.cons (g:={ ord:=[(6,[0,1,2,3,4,5,6,7,8])] }) Tryz.func108 (by kernel_rfl) .nil) 2 (by kernel_rfl) (fun P' E hP hE=>?_)
 cbv
 refine fork.mk ?_ ?_
 ·intro g
  have c1:¬ n=m:=by subst hE; rw [<-hln,<-hlm]; simpa [std] using g
  have hx:=w1 c1
  cbv
  exact congrArg Value.bool hx.symm
 ·intro g
  have c1:n=m:=by subst hE; rw [<-hln,<-hlm]; simpa [std] using g
  have hrnd:=hrnd c1
  have hfin:=hfin c1
  clear g w1 hrt
  cbv
  refine LoopTo.by (ι:=Int) (fun x=>[(5,.v (.int .i64 x))]) (fun x=>[]) (fun x=>SamI a b n x) (fun x=>(n - x).toNat) i0 [] hp0 ?_ ?_
  ·cbv
   subst hE
   and_intros
   all_goals first
    | exact True.intro
    | rfl
    | exact vi hi0.symm
    | exact vj hi0.symm
    | (simp; done)
  ·intro i hi
   have hi:SamI a b n i:=hi
   clear hp0
   cbv
   refine fork.mk ?_ ?_
   ·intro g
    have hlt:i < n:=by subst hE; rw [<-hln]; simpa [std] using g
    refine Exists.elim (hrnd i hi hlt) ?_
    intro j h
    refine Exists.elim h ?_
    intro p h
    refine Exists.elim h ?_
    intro q hf
    have in1:=hf.in1
    have in2:=hf.in2
    have hadd:=hf.add
    have hg1:=hf.g1
    have hg2:=hf.g2
    have hyes:=hf.yes
    have hno:=hf.no
    have hmu:=hf.mu
    clear hf h hi hlt g hrnd hfin
    cbv
    refine Need.mk (by subst hE; exact in1) ?_
    cbv
    refine Need.mk (by subst hE; exact in2) ?_
    cbv
    refine fork.mk ?_ ?_
    ·intro g
     have c2:¬ p=q:=by
      subst hE
      have g:(!eqCells (std.get Pt a i zQ).c (std.get Pt b i zQ).c)=true:=g
      rw [hg1,hg2] at g
      exact fun e=>by rw [(eqc_P p q).2 e] at g; exact absurd g (by decide)
     have hx:=hrf (hno c2)
     cbv
     exact congrArg Value.bool hx.symm
    ·intro g
     have c2:p=q:=by
      subst hE
      have g:(!eqCells (std.get Pt a i zQ).c (std.get Pt b i zQ).c)=false:=g
      rw [hg1,hg2] at g
      exact (eqc_P p q).1 (by simpa using g)
     have hst:=hyes c2
     cbv
     refine ⟨j,[],hst,hmu,?_⟩
     cbv
     subst hE
     and_intros
     all_goals first
      | exact True.intro
      | rfl
      | exact vi hadd
      | exact vj hadd
      | (simp; done)
   ·intro g
    have hge:¬ i < n:=by subst hE; rw [<-hln]; simpa [std] using g
    have hx:=hfin i hi hge
    clear hi hge hfin hrnd g
    cbv
    exact congrArg Value.bool hx.symm
end Go.Proofs.YtkipmmiiackdaaaGreat.Sx
