/- Part 27 of what the statement needs: an executor of Go texts, arithmetic, and contracts of the functions that are called. -/
import Derived.Test.YtkipmmiiackdaaaGreatCi12
import Derived.Test.YtkipmmiiackdaaaGreatCi23
import Derived.Test.YtkipmmiiackdaaaGreatCi25
import Derived.Test.YtkipmmiiackdaaaGreatCi26
set_option linter.unusedSimpArgs false
set_option linter.unusedVariables false
set_option maxHeartbeats 16000000
set_option maxRecDepth 100000
namespace Go.Proofs.YtkipmmiiackdaaaGreat.Sx
open Env (std)
def exR (sg:Int):R->List R->R
 | o,[]=>o
 | o,r::l=>exR sg (if cmpQ r.q o.q=sg then r else o) l
theorem exR_is {k:Nat} {sg:Int}:∀ {o:R} {l:List R},Is k o o.q->(∀ r ∈ l,Is k r r.q)->Is k (exR sg o l) (exR sg o l).q
 | o,[],h,_=>h
 | o,r::l,h,hl=>by
  unfold exR
  refine exR_is ?_ (fun x hx=>hl x (by simp [hx]))
  split
  ·exact hl r (by simp)
  ·exact h
theorem exR_min:∀ {o:R} {l:List R},0<=(exR (-1) o l).q ↔ 0<=o.q/\∀ r ∈ l,0<=r.q
 | o,[]=>by simp [exR]
 | o,r::l=>by
  unfold exR
  rw [exR_min]
  by_cases c:cmpQ r.q o.q = -1
  ·have:=(cmpQ_lt (x:=r.q) (y:=o.q)).1 (by omega)
   rw [if_pos c]
   constructor
   ·rintro ⟨h1,h2⟩
    refine ⟨by grind,fun x hx=>?_⟩
    rcases List.mem_cons.1 hx with rfl | hx
    ·exact h1
    ·exact h2 x hx
   ·rintro ⟨h1,h2⟩
    exact ⟨h2 r (by simp),fun x hx=>h2 x (by simp [hx])⟩
  ·have:¬ r.q < o.q:=fun h=>by
    have h1:=cmpQ_lt.2 h
    have h2:=cmpQ_rng r.q o.q
    omega
   rw [if_neg c]
   constructor
   ·rintro ⟨h1,h2⟩
    refine ⟨h1,fun x hx=>?_⟩
    rcases List.mem_cons.1 hx with rfl | hx
    ·grind
    ·exact h2 x hx
   ·rintro ⟨h1,h2⟩
    exact ⟨h1,fun x hx=>h2 x (by simp [hx])⟩
theorem exR_step {sg:Int} {o:R} {l:List R} {i:Nat} (z:R) (h:i < l.length):exR sg o (l.drop i)=exR sg (if cmpQ (l.getD i z).q o.q=sg then l.getD i z else o) (l.drop (i+1)):=by
 rw [drop_get z h]; rfl
theorem extreme_con {k:Nat} (sg:Int) (x:R) (xs:List R) (hk:k+k<=134217728) (h:∀ r ∈ x::xs,Is k r r.q) (hl:xs.length<=100000):Con Tryz.prog 125 [.v (.int .i64 sg),.ro cR (x::xs)] (.v (exR sg x xs).v):=by
 obtain ⟨res,hr⟩:∃ r,r=exR sg x xs:=⟨_,rfl⟩
 rw [<-hr]
 obtain ⟨L,hL⟩:∃ L,L=x::xs:=⟨_,rfl⟩
 rw [<-hL] at h ⊢
 have hlen:L.length=xs.length+1:=by rw [hL]; rfl
 have h0:L.getD 0 ⟨false,⟨#[]⟩,⟨#[]⟩⟩=x:=by rw [hL]; rfl
 have hxs:∀ i:Nat,L.drop (i+1)=xs.drop i:=fun i=>by rw [hL]; rfl
 obtain ⟨i0,hi0⟩:∃ i:Int,i=0:=⟨_,rfl⟩
 have hinv0:0<=i0/\i0<=(L.length:Int) - 1/\exR sg x (xs.drop i0.toNat)=res/\Is k x x.q:=by
  subst hi0
  exact ⟨by omega,by omega,by rw [hr]; rfl,h x (by rw [hL]; simp)⟩
 have hn0:std.inb 0 (std.len R L):=by rw [s_inb,s_len]; omega
 have hn1:std.rng 1 (std.len R L) (std.len R L):=by rw [s_rng,s_len]; omega
 refine Con.of ttOk mixed Tryz.func125 {} .nil 0 (by kernel_rfl) (fun P' E hP hE=>?_)
 cbv
 refine Need.mk (by subst hE; exact hn0) ?_
 cbv
 refine Need.mk (by subst hE; exact hn1) ?_
 cbv
 refine LoopTo.by (ι:=Int × R) (fun y=>[(14,.v (.int .i64 y.1))]) (fun y=>[(3,.cells y.2.av 31)]) (fun y=>0<=y.1/\y.1<=(L.length:Int) - 1/\exR sg y.2 (xs.drop y.1.toNat)=res/\Is k y.2 y.2.q) (fun y=>((L.length:Int) - y.1).toNat) (i0,x) [] hinv0 ?_ ?_
 ·cbv
  subst hE
  have hg:std.get R L 0 ⟨false,⟨#[]⟩,⟨#[]⟩⟩=x:=h0
  and_intros
  all_goals first
   | rfl
   | exact True.intro
   | (simp; done)
   | exact congrArg (fun y:R=>AV.v (Value.bool y.neg)) hg
   | exact congrArg (fun y:R=>AV.v (Value.string y.num)) hg
   | exact congrArg (fun y:R=>AV.v (Value.string y.den)) hg
   | exact congrArg (fun y:R=>Value.bool y.neg) hg
   | exact congrArg (fun y:R=>Value.string y.num) hg
   | exact congrArg (fun y:R=>Value.string y.den) hg
   | exact vj hi0.symm
   | exact vi hi0.symm
 ·rintro ⟨i,o⟩ hi
  have h1:0<=i:=hi.1
  have h2:i<=(L.length:Int) - 1:=hi.2.1
  have h3:exR sg o (xs.drop i.toNat)=res:=hi.2.2.1
  have ho:Is k o o.q:=hi.2.2.2
  clear hi hinv0
  cbv
  refine fork.mk ?_ ?_
  ·intro g1
   have hlt:i < (L.length:Int) - 1:=by subst hE; exact of_decide_eq_true (show decide (i < std.sb (std.len R L) 1)=true from g1)
   have hst:=exR_step (sg:=sg) (o:=o) (l:=xs) (i:=i.toNat) ⟨false,⟨#[]⟩,⟨#[]⟩⟩ (by omega)
   rw [h3] at hst
   have e1:(1+i).toNat=i.toNat+1:=by omega
   have hget0:std.get R L (std.ad 1 i) ⟨false,⟨#[]⟩,⟨#[]⟩⟩=xs.getD i.toNat ⟨false,⟨#[]⟩,⟨#[]⟩⟩:=by
    rw [s_get,s_ad,e1,hL]; rfl
   have hin:std.inb i (std.sb (std.len R L) 1):=by rw [s_inb,s_sb,s_len]; exact ⟨h1,hlt⟩
   refine exVar (xs.getD i.toNat ⟨false,⟨#[]⟩,⟨#[]⟩⟩) ?_
   intro p hp
   rw [<-hp] at hst hget0
   have hpk:Is k p p.q:=by
    refine h p ?_
    rw [hp,hL,List.getD_eq_getElem?_getD,List.getElem?_eq_getElem (by omega)]
    exact List.mem_cons_of_mem _ (List.getElem_mem _)
   refine exVar (i+1) ?_
   intro j hj
   have hj0:std.ib .add .i64 i 1=j:=by rw [s_add,w64 (by omega) (by omega),hj]
   have hj1:j.toNat=i.toNat+1:=by omega
   have hmu:((L.length:Int) - j).toNat < ((L.length:Int) - i).toNat:=by omega
   have hj2:0<=j:=by omega
   have hj3:j<=(L.length:Int) - 1:=by omega
   rw [<-hj1] at hst
   clear hp
   cbv
   refine Need.mk (by subst hE; exact hin) ?_
   have hpk':Is k (E.get R L (E.ad 1 i) ⟨false,⟨#[]⟩,⟨#[]⟩⟩) p.q:=by subst hE; rw [hget0]; exact hpk
   cbv
   refine cmp_c hP hE hpk' ho (by omega) ?_
   intro c ec
   cbv
   refine fork.mk ?_ ?_
   ·intro g2
    have hc:cmpQ p.q o.q=sg:=by subst hE; rw [<-ec]; exact of_decide_eq_true (show decide (c=sg)=true from g2)
    rw [if_pos hc] at hst
    cbv
    refine ⟨(j,p),[],⟨hj2,hj3,hst.symm,hpk⟩,hmu,?_⟩
    cbv
    subst hE
    and_intros
    all_goals first
     | rfl
     | exact True.intro
     | (simp; done)
     | exact congrArg (fun y:R=>AV.v (Value.bool y.neg)) hget0
     | exact congrArg (fun y:R=>AV.v (Value.string y.num)) hget0
     | exact congrArg (fun y:R=>AV.v (Value.string y.den)) hget0
     | exact vi hj0
   ·intro g2
    have hc:¬ cmpQ p.q o.q=sg:=by subst hE; rw [<-ec]; exact of_decide_eq_false (show decide (c=sg)=false from g2)
    rw [if_neg hc] at hst
    cbv
    refine ⟨(j,o),[],⟨hj2,hj3,hst.symm,ho⟩,hmu,?_⟩
    cbv
    subst hE
    and_intros
    all_goals first
     | rfl
     | exact True.intro
     | (simp; done)
     | exact vi hj0
  ·intro g1
   have hge:¬ i < (L.length:Int) - 1:=by subst hE; exact of_decide_eq_false (show decide (i < std.sb (std.len R L) 1)=false from g1)
   have e:o=res:=by rw [<-h3,List.drop_eq_nil_of_le (by omega)]; rfl
   cbv
   rw [e]
instance (b:Bq) (p:Pq):Decidable (WithinP b p):=by unfold WithinP; infer_instance
def withinQ (b:Bq) (p:Pq):Bool:=decide (WithinP b p)
theorem Is.self {k:Nat} {a:R} {x:Rat} (h:Is k a x):Is k a a.q:=by rw [h.q]; exact h
theorem withinQ_iff {B:Bq} {A:Pq}:withinQ B A=true ↔ 0<=A.x - B.lo.x/\0<=A.y - B.lo.y/\0<=B.hi.x - A.x/\0<=B.hi.y - A.y:=by
 unfold withinQ
 rw [decide_eq_true_iff]
 unfold WithinP
 constructor
 ·rintro ⟨h1,h2,h3,h4⟩; refine ⟨?_,?_,?_,?_⟩<;>grind
 ·rintro ⟨h1,h2,h3,h4⟩; refine ⟨?_,?_,?_,?_⟩<;>grind
theorem within_q {a:Bx} {B:Bq} {k:Nat} {b:Pt} {A:Pq} {l:Nat} (ha:IsB k a B) (hb:IsP l b A) (h:8*(k+l+1)<=134217728):Con Tryz.prog 41 [.v a.v,.v b.v] (.v (.bool (withinQ B A))):=by
 obtain ⟨⟨⟨an0,au0,ad0⟩,⟨an1,au1,ad1⟩⟩,⟨⟨an2,au2,ad2⟩,⟨an3,au3,ad3⟩⟩⟩:=a
 have halo:IsP k ⟨⟨an0,au0,ad0⟩,⟨an1,au1,ad1⟩⟩ B.lo:=ha.lo
 have hahi:IsP k ⟨⟨an2,au2,ad2⟩,⟨an3,au3,ad3⟩⟩ B.hi:=ha.hi
 have halox:Is k ⟨an0,au0,ad0⟩ B.lo.x:=ha.lo.x
 have haloy:Is k ⟨an1,au1,ad1⟩ B.lo.y:=ha.lo.y
 have hahix:Is k ⟨an2,au2,ad2⟩ B.hi.x:=ha.hi.x
 have hahiy:Is k ⟨an3,au3,ad3⟩ B.hi.y:=ha.hi.y
 obtain ⟨⟨bn0,bu0,bd0⟩,⟨bn1,bu1,bd1⟩⟩:=b
 have hbx:Is l ⟨bn0,bu0,bd0⟩ A.x:=hb.x
 have hby:Is l ⟨bn1,bu1,bd1⟩ A.y:=hb.y
 obtain ⟨r0,e0⟩:∃ r,r=withinQ B A:=⟨_,rfl⟩
 rw [<-e0]
 obtain ⟨c1,ec1,hc1,kc1⟩:=vsub_p hb halo (by omega)
 obtain ⟨c2,ec2,hc2,kc2⟩:=vsub_p hahi hb (by omega)
 have hc1x:=hc1.x
 have hc1y:=hc1.y
 have hc2x:=hc2.x
 have hc2y:=hc2.y
 refine Con.of ttOk mixed Tryz.func41 { ord:=[(1,(.op 0 (.op 1 (.op 2 (.op 4 (.op 5 (.op 6 (.br 3 (.br 7 (.br 8 (.op 9 (.op 10 (.op 11 .nil))) (.br 9 (.op 8 (.op 10 (.op 11 .nil))) .stop)) (.br 8 (.br 7 (.op 9 (.op 10 (.op 11 .nil))) (.br 9 (.op 7 (.op 10 (.op 11 .nil))) .stop)) (.br 9 (.br 7 (.op 8 (.op 10 (.op 11 .nil))) (.br 8 (.op 7 (.op 10 (.op 11 .nil))) .stop)) .stop))) (.br 8 (.br 3 (.br 7 (.op 9 (.op 10 (.op 11 .nil))) (.br 9 (.op 7 (.op 10 (.op 11 .nil))) .stop)) (.br 9 (.op 3 (.op 7 (.op 10 (.op 11 .nil)))) .stop)) (.br 9 (.br 3 (.br 7 (.op 8 (.op 10 (.op 11 .nil))) (.br 8 (.op 7 (.op 10 (.op 11 .nil))) .stop)) (.br 8 (.op 3 (.op 7 (.op 10 (.op 11 .nil)))) .stop)) .stop))))))))))] } .nil 0 (by kernel_rfl) (fun P' E hP hE=>?_)
 cbv
 refine DrawTo.byU [(5,.p 4 0),(6,.p 5 0)] [.cells c1.av 33,.cells c2.av 33] ?_ ?_
 ·cbv
  repeat' first
   | exact True.intro
   | (refine Both.mk ?_ ?_<;>cbv)
   | (refine CallTo.w hP hE kc1 ⟨rfl,rfl,trivial⟩ ?_; cbv)
   | (refine CallTo.w hP hE kc2 ⟨rfl,rfl,trivial⟩ ?_; cbv)
   | (simp only [and_self]; done)
 cbv
 have hs:∀ r ∈ [c1.x,c1.y,c2.x,c2.y],Is (k+l+1) r r.q:=by
  intro r hr
  simp at hr
  rcases hr with rfl | rfl | rfl | rfl
  ·exact (hc1x.self).mono (by omega)
  ·exact (hc1y.self).mono (by omega)
  ·exact (hc2x.self).mono (by omega)
  ·exact (hc2y.self).mono (by omega)
 have ke:=extreme_con (-1) c1.x [c1.y,c2.x,c2.y] (by omega) hs (by simp)
 have hmin:=@exR_min c1.x [c1.y,c2.x,c2.y]
 have hri:=exR_is (sg := -1) (hs c1.x (by simp)) (fun r hr=>hs r (List.mem_cons_of_mem _ hr))
 refine exVar (exR (-1) c1.x [c1.y,c2.x,c2.y]) ?_
 intro r er
 rw [<-er] at ke hmin hri
 refine CallTo.w hP hE ke ⟨rfl,⟨cR_ok,rfl,rfl,by simp⟩,trivial⟩ ?_
 cbv
 refine sign_c hP hE hri (by omega) ?_
 intro m em
 cbv
 subst hE
 have hm:(0<=m) ↔ withinQ B A=true:=by
  rw [em,cmpQ_ge,hmin,withinQ_iff]
  simp
  rw [hc1x.q,hc1y.q,hc2x.q,hc2y.q]
  simp [Pq.sub]
 refine congrArg Value.bool ?_
 rw [e0]
 show decide (m>=0)=_
 rw [Bool.eq_iff_iff,decide_eq_true_iff]
 exact hm
theorem within_p {a:Bx} {B:Bq} {k:Nat} {b:Pt} {A:Pq} {l:Nat} (ha:IsB k a B) (hb:IsP l b A) (h:8*(k+l+1)<=134217728):∃ (r0:Bool),r0=withinQ B A/\Con Tryz.prog 41 [.v a.v,.v b.v] (.v (.bool r0)):=⟨_,rfl,within_q ha hb h⟩
def canR (r:R):Bool:=eqCells r.c (cr r.q).c
def canP (p:Pt):Bool:=canR p.x && canR p.y
def canL (l:List Pt):Bool:=l.all canP
theorem canR_iff {r:R}:canR r=true ↔ r=cr r.q:=eqc_R _ _
theorem canP_iff {p:Pt}:canP p=true ↔ p=crP p.q:=by
 unfold canP crP
 rw [Bool.and_eq_true,canR_iff,canR_iff]
 constructor
 ·rintro ⟨h1,h2⟩
  cases p; simp only [Pt.q] at *; rw [<-h1,<-h2]
 ·intro h
  have h1:=congrArg Pt.x h
  have h2:=congrArg Pt.y h
  exact ⟨h1,h2⟩
theorem canL_eq {l:List Pt} (h:canL l=true):l=(l.map Pt.q).map crP:=by
 rw [List.map_map]
 conv=>lhs; rw [<-List.map_id l]
 refine List.map_congr_left fun p hp=>?_
 exact canP_iff.1 (List.all_eq_true.1 h p hp)
theorem rchk_q {a:R} {x:Rat} {k:Nat} (ha:Is k a x) (h:k<=134217728):Con Tryz.prog 110 [.v a.v] (.v (.int .i64 (if canR a=true then 0 else 1))):=by
 have hq:canR a=eqCells a.c (cr x).c:=by unfold canR; rw [ha.q]
 obtain ⟨m,em⟩:∃ m:Int,m=if canR a=true then 0 else 1:=⟨_,rfl⟩
 rw [<-em]
 rw [hq] at em
 have c1:=of98_con a.neg a.num a.den (ha.sz h).2.1
 have c2:=norm_con _ ha h
 obtain ⟨r,hr⟩:∃ r,r=cr x:=⟨_,rfl⟩
 rw [<-hr] at c2 em
 clear hq hr
 obtain ⟨n1,u1,d1⟩:=a
 obtain ⟨n2,u2,d2⟩:=r
 obtain ⟨e1,he1⟩:∃ e,e=dden d1:=⟨_,rfl⟩
 have he1':e1=dden (R.mk n1 u1 d1).den:=he1
 have he2':e1=dden (R.mk n1 u1 d1).den:=he1
 rw [<-he1'] at c1
 rw [<-he2'] at c2
 unfold rR fR at c1
 unfold fR at c2
 refine Con.of ttOk mixed Tryz.func110 { ord:=[(1,[0,1,2,3,4])] } .nil 0 (by kernel_rfl) (fun P' E hP hE=>?_)
 clear he1 he1' he2'
 cbv
 refine CallTo.w hP hE c1 (by subst hE; exact ⟨rfl,trivial⟩) ?_
 cbv
 refine CallTo.w hP hE c2 (by subst hE; exact ⟨rfl,trivial⟩) ?_
 cbv
 refine fork.mk ?_ ?_
 ·intro g
  cbv
  subst hE
  have g:(!eqCells (R.mk n1 u1 d1).c (R.mk n2 u2 d2).c)=true:=g
  rw [em,if_neg (by simpa using g)]
 ·intro g
  cbv
  subst hE
  have g:(!eqCells (R.mk n1 u1 d1).c (R.mk n2 u2 d2).c)=false:=g
  rw [em,if_pos (by simpa using g)]
theorem vchk_q {a:Pt} {A:Pq} {k:Nat} (ha:IsP k a A) (h:k<=134217728):Con Tryz.prog 25 [.v a.v] (.v (.int .i64 (if canP a=true then 0 else 1))):=by
 obtain ⟨m,em⟩:∃ m:Int,m=if canP a=true then 0 else 1:=⟨_,rfl⟩
 rw [<-em]
 unfold canP at em
 have c1:=rchk_q ha.x h
 have c2:=rchk_q ha.y h
 obtain ⟨m1,e1⟩:∃ m:Int,m=if canR a.x=true then 0 else 1:=⟨_,rfl⟩
 obtain ⟨m2,e2⟩:∃ m:Int,m=if canR a.y=true then 0 else 1:=⟨_,rfl⟩
 rw [<-e1] at c1
 rw [<-e2] at c2
 have key:m=if m1 ≠ 0 then 1 else if m2 ≠ 0 then 1 else 0:=by
  rw [em,e1,e2]
  cases canR a.x<;>cases canR a.y<;>rfl
 clear em e1 e2 ha
 obtain ⟨⟨an0,au0,ad0⟩,⟨an1,au1,ad1⟩⟩:=a
 refine Con.of ttOk mixed Tryz.func25 { un:=[(2,3)] } .nil 0 (by kernel_rfl) (fun P' E hP hE=>?_)
 cbv
 refine CallTo.w hP hE c1 ⟨rfl,trivial⟩ ?_
 cbv
 refine fork.mk ?_ ?_
 ·intro g
  cbv
  subst hE
  have g:std.ic .neq m1 0=true:=g
  rw [key,if_pos (by simpa using g)]
 ·intro g
  cbv
  refine CallTo.w hP hE c2 ⟨rfl,trivial⟩ ?_
  cbv
  have g0:m1=0:=by
   subst hE
   have g:std.ic .neq m1 0=false:=g
   simpa using g
  refine fork.mk ?_ ?_
  ·intro g
   cbv
   subst hE
   have g:std.ic .neq m2 0=true:=g
   rw [key,if_neg (by simp [g0]),if_pos (by simpa using g)]
  ·intro g
   cbv
   subst hE
   have g:std.ic .neq m2 0=false:=g
   rw [key,if_neg (by simp [g0]),if_neg (by simpa using g)]
theorem cont_ok:InlOk Tryz.prog [(193,Tryz.f193,{}),(276,Tryz.f276,{}),(194,Tryz.f194,{})]:=
 InlOk.cons Tryz.func193 (by kernel_rfl) (InlOk.cons Tryz.func276 (by kernel_rfl) (InlOk.cons Tryz.func194 (by kernel_rfl) .nil))
/-- What a round over a list needs. -/
structure LstF (ps:List Pt) (n i j:Int) (p:Pt):Prop where
 in1:0<=i/\i < (ps.length:Int)
 add:std.ib .add .i64 i 1=j
 g1:std.get Pt ps i zQ=p
 m1:p ∈ ps
 j0:0<=j
 j1:j<=n
 mu:(n - j).toNat < (n - i).toNat
 tk:ps.take j.toNat=ps.take i.toNat++[p]
 ej:j=i+1
theorem lstF_ex {ps:List Pt} {n i:Int} (hn:n=(ps.length:Int)) (hl:ps.length<=140737488355328) (h0:0<=i) (h1:i < n):∃ j p,LstF ps n i j p:=by
 have hpos:i.toNat < ps.length:=by omega
 refine ⟨i+1,ps.getD i.toNat zQ,⟨⟨h0,by omega⟩,by rw [s_add,w64 (by omega) (by omega)],rfl,getD_mem hpos,by omega,by omega,by omega,?_,rfl⟩⟩
 have e2:(i+1).toNat=i.toNat+1:=by omega
 rw [e2,List.take_add_one,List.getD_eq_getElem?_getD,List.getElem?_eq_getElem hpos]; rfl
theorem canonL_q {k:Nat} {ps:List Pt} (hp:∀ p ∈ ps,IsP k p p.q) (hk:k<=134217728) (hl:ps.length<=140737488355328):Con Tryz.prog 93 [.ro cP ps] (.v (.bool (canL ps))):=by
 obtain ⟨r,er⟩:∃ r,r=canL ps:=⟨_,rfl⟩
 rw [<-er]
 obtain ⟨n,hn⟩:∃ n:Int,n=ps.length:=⟨_,rfl⟩
 obtain ⟨i0,hi0⟩:∃ i:Int,i=0:=⟨_,rfl⟩
 have hp0:0<=i0/\i0<=n/\canL (ps.take i0.toNat)=true:=⟨by omega,by omega,by rw [hi0]; rfl⟩
 refine Con.of ttOk mixed Tryz.func93 {} cont_ok 4 (by kernel_rfl) (fun P' E hP hE=>?_)
 cbv
 refine LoopTo.by (ι:=Int) (fun x=>[(7,.v (.int .i64 n)),(8,.v (.int .i64 x))]) (fun x=>[]) (fun x=>0<=x/\x<=n/\canL (ps.take x.toNat)=true) (fun x=>(n - x).toNat) i0 [] hp0 ?_ ?_
 ·cbv
  subst hE
  and_intros
  all_goals first
   | exact True.intro
   | rfl
   | exact vi hn.symm
   | exact vj hi0.symm
   | (simp; done)
 ·intro i hi
  have h0:0<=i:=hi.1
  have h1:i<=n:=hi.2.1
  have h2:canL (ps.take i.toNat)=true:=hi.2.2
  clear hi hp0
  cbv
  refine fork.mk ?_ ?_
  ·intro g
   have hn:n=(ps.length:Int):=hn
   have hlt:i < n:=by subst hE; simpa [std] using g
   refine Exists.elim (lstF_ex hn hl h0 hlt) ?_
   intro j h
   refine Exists.elim h ?_
   intro p hf
   have kc:=vchk_q (hp p hf.m1) hk
   obtain ⟨m,em⟩:∃ m:Int,m=if canP p=true then 0 else 1:=⟨_,rfl⟩
   rw [<-em] at kc
   have hin:=hf.in1
   have hget:=hf.g1
   have hj:=hf.add
   have hmu:=hf.mu
   have hst:m=0->0<=j/\j<=n/\canL (ps.take j.toNat)=true:=fun h=>⟨hf.j0,hf.j1,by
    have hc:canP p=true:=by
     cases e:canP p with
     | true=>rfl
     | false=>rw [em,e] at h; cases h
    rw [hf.tk]; unfold canL at h2 ⊢; rw [List.all_append,h2]; simp [hc]⟩
   have hno:m ≠ 0->r=false:=fun h=>by
    have hc:canP p=false:=by
     cases e:canP p with
     | false=>rfl
     | true=>rw [em,e] at h; exact absurd rfl h
    rw [er,<-Bool.not_eq_true]
    intro hcl
    have:=List.all_eq_true.1 hcl p hf.m1
    rw [hc] at this; cases this
   have hge0:std.ic .geq i 0=true:=by show decide (0<=i)=true; exact decide_eq_true h0
   clear hf h h2 em h0 h1 hlt g
   cbv
   refine Need.mk (by subst hE; exact hin) ?_
   cbv
   refine CallTo.w hP hE kc ⟨(by subst hE; exact congrArg (fun p:Pt=>p.v) hget),trivial⟩ ?_
   cbv
   refine fork.mk ?_ ?_
   ·intro g
    have hr:=hno (by subst hE; have g:std.ic .neq m 0=true:=g; simpa using g)
    cbv
    subst hE
    exact congrArg Value.bool ((show (!std.ic .geq i 0)=false by rw [hge0]; rfl).trans hr.symm)
   ·intro g
    have hr:=hst (by subst hE; have g:std.ic .neq m 0=false:=g; simpa using g)
    cbv
    refine ⟨j,[],hr,hmu,?_⟩
    cbv
    subst hE
    and_intros
    all_goals first
     | exact True.intro
     | rfl
     | exact vi hj
     | exact vj hj
     | (simp; done)
  ·intro g
   have hn:n=(ps.length:Int):=hn
   have hge:¬ i < n:=by subst hE; simpa [std] using g
   rw [List.take_of_length_le (by omega)] at h2
   have hr:r=true:=by rw [er]; exact h2
   cbv
   exact congrArg Value.bool hr.symm
abbrev z0:Pt:=⟨⟨false,⟨#[]⟩,⟨#[]⟩⟩,⟨false,⟨#[]⟩,⟨#[]⟩⟩⟩
theorem forkYes {b:Bool} {x y:Unit->Prop} (h:b=true) (hx:x ()):fork b x y:=⟨fun _=>hx,fun e=>by rw [h] at e; cases e⟩
theorem forkNo {b:Bool} {x y:Unit->Prop} (h:b=false) (hy:y ()):fork b x y:=⟨fun e=>(by rw [h] at e; cases e),fun _=>hy⟩
/-- What slices.Concat of two lists (of X and Y points) asks for. -/
structure CatF (X Y:Int):Prop where
 f1:std.ic .lss (std.ib .add .i64 0 X) 0=false
 f2:std.ic .lss (std.ib .add .i64 (std.ib .add .i64 0 X) Y) 0=false
 f3:std.ic .gtr (std.ib .sub .i64 (std.ib .add .i64 (std.ib .add .i64 0 X) Y) 0) 0=true
 r3:std.rng 1 (std.ib .sub .i64 (std.ib .add .i64 (std.ib .add .i64 0 X) Y) 0) (std.ib .sub .i64 (std.ib .add .i64 (std.ib .add .i64 0 X) Y) 0)/\std.fits (std.ib .sub .i64 (std.ib .add .i64 (std.ib .add .i64 0 X) Y) 0) 80
 r4:std.rng 0 0 (std.ib .sub .i64 (std.ib .add .i64 (std.ib .add .i64 0 X) Y) 0)
theorem CatF.of {X Y:Int} (h0:0<=X) (h1:0<=Y) (h2:1<=X+Y) (h3:X+Y<=100000):CatF X Y:=by
 have q1:std.ib .add .i64 0 X=X:=by rw [s_add,w64 (by omega) (by omega)]; omega
 have q2:std.ib .add .i64 X Y=X+Y:=by rw [s_add,w64 (by omega) (by omega)]
 have q3:std.ib .sub .i64 (X+Y) 0=X+Y:=by rw [s_sub,w64 (by omega) (by omega)]; omega
 constructor
 ·rw [q1]; exact decide_eq_false (by omega)
 ·rw [q1,q2]; exact decide_eq_false (by omega)
 ·rw [q1,q2,q3]; exact decide_eq_true (by omega)
 ·rw [q1,q2,q3,s_fits]
  refine ⟨⟨by omega,by omega,by omega⟩,?_⟩
  show 0<=X+Y/\X+Y<=_/\(X+Y)*80<=_
  omega
 ·rw [q1,q2,q3]; exact ⟨by omega,by omega,by omega⟩
/-- The row that slices.Concat yields. -/
structure CatR (X Y:Int) (d1 d2 rs:List Pt):Prop where
 t1:std.fits (std.ad 0 (std.len Pt d1)) 80
 t2:std.fits (std.ad (std.ad 0 (std.len Pt d1)) (std.len Pt d2)) 80
 row:std.app Pt (std.tk Pt (std.app Pt (std.tk Pt (std.rep Pt (std.ib .sub .i64 (std.ib .add .i64 (std.ib .add .i64 0 X) Y) 0) zQ) 0) d1) (std.ad 0 (std.len Pt d1))) d2=rs
 tk:std.tk Pt rs (std.ad (std.ad 0 (std.len Pt d1)) (std.len Pt d2))=rs
 ln:std.ad (std.ad 0 (std.len Pt d1)) (std.len Pt d2)=(rs.length:Int)
theorem CatR.of {X Y:Int} {d1 d2:List Pt} (h1:d1.length+d2.length<=100000):CatR X Y d1 d2 (d1++d2):=by
 have e1:std.ad 0 (std.len Pt d1)=(d1.length:Int):=by show 0+(d1.length:Int)=_; omega
 have e2:std.ad (d1.length:Int) (std.len Pt d2)=((d1++d2).length:Int):=by show (d1.length:Int)+(d2.length:Int)=_; rw [List.length_append]; omega
 constructor
 ·rw [e1,s_fits]
  show 0<=(d1.length:Int)/\(d1.length:Int)<=_/\(d1.length:Int)*80<=_
  omega
 ·rw [e1,e2,s_fits]
  have:(d1++d2).length=d1.length+d2.length:=List.length_append
  show 0<=((d1++d2).length:Int)/\((d1++d2).length:Int)<=_/\((d1++d2).length:Int)*80<=_
  omega
 ·rw [e1,s_app,s_app,s_tk,s_tk,List.take_of_length_le (by simp)]
  simp
 ·rw [e1,e2,s_tk]; exact List.take_of_length_le (by omega)
 ·rw [e1,e2]
theorem cat_ok:InlOk Tryz.prog [(29,Tryz.f29,{ un:=[(3,3),(11,3)] }),(115,Tryz.f115,{})]:=
 InlOk.cons Tryz.func29 (by kernel_rfl) (InlOk.cons Tryz.func115 (by kernel_rfl) .nil)
def exC (sg:Int) (o p:Pt):Pt:=⟨exR sg o.x [p.x],exR sg o.y [p.y]⟩
def exL (sg:Int) (o:Pt) (l:List Pt):Pt:=l.foldl (exC sg) o
theorem exC_is {k:Nat} {sg:Int} {o p:Pt} (ho:IsP k o o.q) (hp:IsP k p p.q):IsP k (exC sg o p) (exC sg o p).q:=
 ⟨exR_is ho.x (fun r hr=>by rw [List.mem_singleton.1 hr]; exact hp.x),exR_is ho.y (fun r hr=>by rw [List.mem_singleton.1 hr]; exact hp.y)⟩
theorem exL_is {k:Nat} {sg:Int}:∀ {l:List Pt} {o:Pt},IsP k o o.q->(∀ p ∈ l,IsP k p p.q)->IsP k (exL sg o l) (exL sg o l).q
 | [],o,h,_=>h
 | p::l,o,h,hl=>exL_is (l:=l) (o:=exC sg o p) (exC_is h (hl p (by simp))) (fun q hq=>hl q (by simp [hq]))
/-- The least one lies nowhere above. -/
theorem exR_le {o r:R}:(exR (-1) o [r]).q<=o.q/\(exR (-1) o [r]).q<=r.q:=by
 show (if cmpQ r.q o.q = -1 then r else o).q<=o.q/\(if cmpQ r.q o.q = -1 then r else o).q<=r.q
 split
 ·rename_i c
  have:=(cmpQ_lt (x:=r.q) (y:=o.q)).1 (by omega)
  exact ⟨by grind,by grind⟩
 ·rename_i c
  have:¬ r.q < o.q:=fun h=>by
   have h1:=cmpQ_lt.2 h
   have h2:=cmpQ_rng r.q o.q
   omega
  exact ⟨by grind,by grind⟩
theorem exR_ge {o r:R}:o.q<=(exR 1 o [r]).q/\r.q<=(exR 1 o [r]).q:=by
 show o.q<=(if cmpQ r.q o.q=1 then r else o).q/\r.q<=(if cmpQ r.q o.q=1 then r else o).q
 split
 ·rename_i c
  have:=(cmpQ_gt (x:=r.q) (y:=o.q)).1 (by omega)
  exact ⟨by grind,by grind⟩
 ·rename_i c
  have:¬ o.q < r.q:=fun h=>by
   have h1:=cmpQ_gt.2 h
   have h2:=cmpQ_rng r.q o.q
   omega
  exact ⟨by grind,by grind⟩
theorem exL_le:∀ (l:List Pt) (o:Pt),((exL (-1) o l).q.x<=o.q.x/\(exL (-1) o l).q.y<=o.q.y)/\∀ p ∈ l,(exL (-1) o l).q.x<=p.q.x/\(exL (-1) o l).q.y<=p.q.y
 | [],o=>⟨⟨by show o.q.x<=o.q.x; grind,by show o.q.y<=o.q.y; grind⟩,fun p hp=>by cases hp⟩
 | p::l,o=>by
  obtain ⟨⟨h1,h2⟩,h3⟩:=exL_le l (exC (-1) o p)
  have e1:=@exR_le o.x p.x
  have e2:=@exR_le o.y p.y
  have hx:(exC (-1) o p).q.x=(exR (-1) o.x [p.x]).q:=rfl
  have hy:(exC (-1) o p).q.y=(exR (-1) o.y [p.y]).q:=rfl
  show ((exL (-1) (exC (-1) o p) l).q.x<=o.x.q/\(exL (-1) (exC (-1) o p) l).q.y<=o.y.q)/\_
  refine ⟨⟨by grind,by grind⟩,fun q hq=>?_⟩
  rcases List.mem_cons.1 hq with rfl | hq
  ·show (exL (-1) (exC (-1) o q) l).q.x<=q.x.q/\(exL (-1) (exC (-1) o q) l).q.y<=q.y.q
   exact ⟨by grind,by grind⟩
  ·exact h3 q hq
theorem exL_ge:∀ (l:List Pt) (o:Pt),(o.q.x<=(exL 1 o l).q.x/\o.q.y<=(exL 1 o l).q.y)/\∀ p ∈ l,p.q.x<=(exL 1 o l).q.x/\p.q.y<=(exL 1 o l).q.y
 | [],o=>⟨⟨by show o.q.x<=o.q.x; grind,by show o.q.y<=o.q.y; grind⟩,fun p hp=>by cases hp⟩
 | p::l,o=>by
  obtain ⟨⟨h1,h2⟩,h3⟩:=exL_ge l (exC 1 o p)
  have e1:=@exR_ge o.x p.x
  have e2:=@exR_ge o.y p.y
  have hx:(exC 1 o p).q.x=(exR 1 o.x [p.x]).q:=rfl
  have hy:(exC 1 o p).q.y=(exR 1 o.y [p.y]).q:=rfl
  show (o.x.q<=(exL 1 (exC 1 o p) l).q.x/\o.y.q<=(exL 1 (exC 1 o p) l).q.y)/\_
  refine ⟨⟨by grind,by grind⟩,fun q hq=>?_⟩
  rcases List.mem_cons.1 hq with rfl | hq
  ·show q.x.q<=(exL 1 (exC 1 o q) l).q.x/\q.y.q<=(exL 1 (exC 1 o q) l).q.y
   exact ⟨by grind,by grind⟩
  ·exact h3 q hq
/-- The loop: what is left is folded in. -/
structure BndI (l:List Pt) (k:Nat) (sg:Int) (res:Pt) (n i:Int) (o:Pt):Prop where
 h0:0<=i
 h1:i<=n
 eq:exL sg o (l.drop i.toNat)=res
 is:IsP k o o.q
structure BndF (l:List Pt) (k:Nat) (sg:Int) (res:Pt) (n i:Int) (o:Pt) (j:Int) (p o':Pt):Prop where
 in1:0<=i/\i < (l.length:Int)
 add:std.ib .add .i64 i 1=j
 g1:std.get Pt l i zQ=p
 kx:Con Tryz.prog 125 [.v (.int .i64 sg),.ro cR [o.x,p.x]] (.v o'.x.v)
 ky:Con Tryz.prog 125 [.v (.int .i64 sg),.ro cR [o.y,p.y]] (.v o'.y.v)
 inv:BndI l k sg res n j o'
 mu:(n - j).toNat < (n - i).toNat
theorem bndF_ex {l:List Pt} {k:Nat} {sg:Int} {res:Pt} {n i:Int} {o:Pt} (hp:∀ p ∈ l,IsP k p p.q) (hl:l.length<=4096) (hk:k+k<=134217728) (hn:n=(l.length:Int)) (h:BndI l k sg res n i o) (hi:i < n):∃ j p o',BndF l k sg res n i o j p o':=by
 have h0:=h.h0
 obtain ⟨j,p,hf⟩:=lstF_ex hn (by omega) h0 hi
 have hpk:=hp p hf.m1
 have ej:=hf.ej
 have e:l.drop i.toNat=p::l.drop j.toNat:=by
  have hlt:i.toNat < l.length:=by omega
  rw [List.drop_eq_getElem_cons hlt]
  have h9:=hf.g1
  have h8:std.get Pt l i zQ=l.getD i.toNat zQ:=rfl
  rw [h8,List.getD_eq_getElem?_getD,List.getElem?_eq_getElem hlt] at h9
  have h7:l[i.toNat]=p:=h9
  rw [h7,ej,show (i+1).toNat=i.toNat+1 from by omega]
 refine ⟨j,p,exC sg o p,hf.in1,hf.add,hf.g1,?_,?_,⟨hf.j0,hf.j1,?_,exC_is h.is hpk⟩,hf.mu⟩
 ·exact extreme_con sg o.x [p.x] hk (fun r hr=>by
   rcases List.mem_cons.1 hr with rfl | hr
   ·exact h.is.x
   ·rw [List.mem_singleton.1 hr]; exact hpk.x) (by simp)
 ·exact extreme_con sg o.y [p.y] hk (fun r hr=>by
   rcases List.mem_cons.1 hr with rfl | hr
   ·exact h.is.y
   ·rw [List.mem_singleton.1 hr]; exact hpk.y) (by simp)
 ·have:=h.eq
  rw [e] at this
  exact this
theorem bound_ok:InlOk Tryz.prog [(123,Tryz.f123,{ ord:=[] }),(124,Tryz.f124,{ ord:=[] }),(113,Tryz.f113,{ ord:=[(1,[0,1,2,3,4,6,7,8,9,10,5,11,12,13])] })]:=
 InlOk.cons Tryz.func123 (by kernel_rfl) (InlOk.cons Tryz.func124 (by kernel_rfl) (InlOk.cons Tryz.func113 (by kernel_rfl) .nil))
theorem bound_q {k:Nat} {l:List Pt} (hp:∀ p ∈ l,IsP k p p.q) (h1:1<=l.length) (hl:l.length<=1000) (hk:k+k+8<=134217728):Con Tryz.prog 40 [.ro cP l] (.v (.tuple #[(crB ⟨(exL (-1) (l.getD 0 zQ) l).q,(exL 1 (l.getD 0 zQ) l).q⟩).v,.int .i64 0])):=by
 obtain ⟨n,hn⟩:∃ n:Int,n=l.length:=⟨_,rfl⟩
 have hln:std.len Pt l=n:=by rw [s_len,hn]
 obtain ⟨p0,hp0⟩:∃ p,p=l.getD 0 zQ:=⟨_,rfl⟩
 have i0:IsP k p0 p0.q:=by
  refine hp p0 ?_
  rw [hp0,List.getD_eq_getElem?_getD,List.getElem?_eq_getElem (by omega)]
  exact List.getElem_mem _
 have hg0:std.get Pt l 0 zQ=p0:=by rw [hp0]; rfl
 have hin0:0<=(0:Int)/\(0:Int) < (l.length:Int):=by omega
 obtain ⟨lo,hlo⟩:∃ p,p=exL (-1) p0 l:=⟨_,rfl⟩
 obtain ⟨hi,hhi⟩:∃ p,p=exL 1 p0 l:=⟨_,rfl⟩
 have ilo:IsP k lo lo.q:=by rw [hlo]; exact exL_is i0 hp
 have ihi:IsP k hi hi.q:=by rw [hhi]; exact exL_is i0 hp
 obtain ⟨z0,hz0⟩:∃ i:Int,i=0:=⟨_,rfl⟩
 have hA:BndI l k (-1) lo n z0 p0:=⟨by omega,by omega,by rw [hz0,hlo]; rfl,i0⟩
 have hB:BndI l k 1 hi n z0 p0:=⟨by omega,by omega,by rw [hz0,hhi]; rfl,i0⟩
 have hrnd:∀ sg res i o,BndI l k sg res n i o->i < n->∃ j p o',BndF l k sg res n i o j p o':=fun sg res i o h h'=>bndF_ex hp (by omega) (by omega) hn h h'
 have hfin:∀ sg res i o,BndI l k sg res n i o->¬ i < n->o=res:=fun sg res i o h h'=>by
  have h2:=h.h1
  have h3:=h.eq
  rw [List.drop_of_length_le (by omega)] at h3
  exact h3
 have hz1:IsP 1 zQ Pq.zero:=by
  have h:=(BdP.zero (k:=1) (by omega)).is
  rw [crP_zero] at h
  exact h
 obtain ⟨c1,ec1,hc1,k1⟩:=vadd_p (A:=lo.q) (B:=Pq.zero) ilo hz1 (by omega)
 obtain ⟨c2,ec2,hc2,k2⟩:=vadd_p (A:=hi.q) (B:=Pq.zero) ihi hz1 (by omega)
 have hadd0:∀ q:Pq,q.add Pq.zero=q:=fun q=>Pq.ext' (by show q.x+0=q.x; grind) (by show q.y+0=q.y; grind)
 rw [hadd0] at ec1 ec2
 have eB:(crB ⟨(exL (-1) p0 l).q,(exL 1 p0 l).q⟩).v=(⟨c1,c2⟩:Bx).v:=by rw [ec1,ec2,<-hlo,<-hhi]; rfl
 rw [<-hp0,eB]
 have tk9:std.tk Pt l (std.len Pt l)=l:=by rw [s_tk,s_len]; exact List.take_of_length_le (by omega)
 have hne:¬ n=0:=by omega
 have hle:¬ 1000 < n:=by omega
 have hne2:¬ std.len Pt l=0:=by rw [hln]; exact hne
 have hle2:¬ std.len Pt l > 1000:=by rw [hln]; exact hle
 clear ec1 ec2 eB hc1 hc2 hlo hhi hp hp0
 refine Con.of ttOk mixed Tryz.func40 {} bound_ok 4 (by kernel_rfl) (fun P' E hP hE=>?_)
 cbv
 refine forkNo (by subst hE; exact decide_eq_false hne2) ?_
 cbv
 refine forkNo (by subst hE; exact decide_eq_false hle2) ?_
 cbv
 refine Need.mk (by subst hE; exact hin0) ?_
 cbv
 refine LoopTo.by (ι:=Int × Pt) (fun x=>[(12,.v (.int .i64 x.1))]) (fun x=>[(5,.cells x.2.av 33)]) (fun x=>BndI l k (-1) lo n x.1 x.2) (fun x=>(n - x.1).toNat) (z0,p0) [] hA ?_ ?_
 ·cbv
  subst hE
  and_intros
  all_goals first
   | exact True.intro
   | rfl
   | (simp; done)
   | exact congrArg (fun p:Pt=>AV.v (Value.bool p.x.neg)) hg0
   | exact congrArg (fun p:Pt=>AV.v (Value.string p.x.num)) hg0
   | exact congrArg (fun p:Pt=>AV.v (Value.string p.x.den)) hg0
   | exact congrArg (fun p:Pt=>AV.v (Value.bool p.y.neg)) hg0
   | exact congrArg (fun p:Pt=>AV.v (Value.string p.y.num)) hg0
   | exact congrArg (fun p:Pt=>AV.v (Value.string p.y.den)) hg0
   | exact vi hz0.symm
   | exact vj hz0.symm
 ·rintro ⟨i,o⟩ hI
  have hI:BndI l k (-1) lo n i o:=hI
  cbv
  refine fork.mk ?_ ?_
  ·intro g
   have hlt:i < n:=by subst hE; rw [<-hln]; simpa [std] using g
   refine Exists.elim (hrnd (-1) lo i o hI hlt) ?_
   intro j h
   refine Exists.elim h ?_
   intro p h
   refine Exists.elim h ?_
   intro o' hf
   have in1:=hf.in1
   have hadd:=hf.add
   have hg1:=hf.g1
   have kx:=hf.kx
   have ky:=hf.ky
   rw [<-hg1] at kx ky
   have hinv:=hf.inv
   have hmu:=hf.mu
   clear hf h hI hlt g
   cbv
   refine Need.mk (by subst hE; exact in1) ?_
   cbv
   refine CallTo.w hP hE kx ⟨rfl,(by subst hE; exact ⟨cR_ok,rfl,rfl,by simp⟩),trivial⟩ ?_
   cbv
   refine CallTo.w hP hE ky ⟨rfl,(by subst hE; exact ⟨cR_ok,rfl,rfl,by simp⟩),trivial⟩ ?_
   cbv
   refine ⟨(j,o'),[0,1,2,3,4,5],hinv,hmu,?_⟩
   cbv
   subst hE
   and_intros
   all_goals first
    | exact True.intro
    | rfl
    | exact vi hadd
    | exact vj hadd
    | (simp; done)
  ·intro g
   have hge:¬ i < n:=by subst hE; rw [<-hln]; simpa [std] using g
   have ho:=hfin (-1) lo i o hI hge
   rw [<-ho] at k1
   clear hI hge g
   cbv
   refine CallTo.w hP hE k1 ⟨rfl,rfl,trivial⟩ ?_
   cbv
   refine Need.mk (by subst hE; exact hin0) ?_
   cbv
   refine LoopTo.by (ι:=Int × Pt) (fun x=>[(12,.v (.int .i64 x.1))]) (fun x=>[(8,.cells x.2.av 33)]) (fun x=>BndI l k 1 hi n x.1 x.2) (fun x=>(n - x.1).toNat) (z0,p0) [] hB ?_ ?_
   ·cbv
    subst hE
    and_intros
    all_goals first
     | exact True.intro
     | rfl
     | (simp; done)
     | exact congrArg (fun p:Pt=>AV.v (Value.bool p.x.neg)) hg0
     | exact congrArg (fun p:Pt=>AV.v (Value.string p.x.num)) hg0
     | exact congrArg (fun p:Pt=>AV.v (Value.string p.x.den)) hg0
     | exact congrArg (fun p:Pt=>AV.v (Value.bool p.y.neg)) hg0
     | exact congrArg (fun p:Pt=>AV.v (Value.string p.y.num)) hg0
     | exact congrArg (fun p:Pt=>AV.v (Value.string p.y.den)) hg0
     | exact vi hz0.symm
     | exact vj hz0.symm
   ·rintro ⟨i,o⟩ hI
    have hI:BndI l k 1 hi n i o:=hI
    cbv
    refine fork.mk ?_ ?_
    ·intro g
     have hlt:i < n:=by subst hE; rw [<-hln]; simpa [std] using g
     refine Exists.elim (hrnd 1 hi i o hI hlt) ?_
     intro j h
     refine Exists.elim h ?_
     intro p h
     refine Exists.elim h ?_
     intro o' hf
     have in1:=hf.in1
     have hadd:=hf.add
     have hg1:=hf.g1
     have kx:=hf.kx
     have ky:=hf.ky
     rw [<-hg1] at kx ky
     have hinv:=hf.inv
     have hmu:=hf.mu
     clear hf h hI hlt g
     cbv
     refine Need.mk (by subst hE; exact in1) ?_
     cbv
     refine CallTo.w hP hE kx ⟨rfl,(by subst hE; exact ⟨cR_ok,rfl,rfl,by simp⟩),trivial⟩ ?_
     cbv
     refine CallTo.w hP hE ky ⟨rfl,(by subst hE; exact ⟨cR_ok,rfl,rfl,by simp⟩),trivial⟩ ?_
     cbv
     refine ⟨(j,o'),[0,1,2,3,4,5,6,7,8],hinv,hmu,?_⟩
     cbv
     subst hE
     and_intros
     all_goals first
      | exact True.intro
      | rfl
      | exact vi hadd
      | exact vj hadd
      | (simp; done)
    ·intro g
     have hge:¬ i < n:=by subst hE; rw [<-hln]; simpa [std] using g
     have ho:=hfin 1 hi i o hI hge
     rw [<-ho] at k2
     clear hI hge g
     cbv
     refine CallTo.w hP hE k2 ⟨rfl,rfl,trivial⟩ ?_
     cbv
/-- Parity's answer. -/
def parB (ps:List Pt) (z:Pt):Bool:=if canL ps=true then if canL [z]=true then if 1000 < (ps.length:Int) then false else oddQ (ps.map Pt.q) z.q else false else false
def parI (ps:List Pt) (z:Pt):Int:=if canL ps=true then if canL [z]=true then if 1000 < (ps.length:Int) then 4 else 0 else 1 else 1
theorem parity_q {k:Nat} {ps:List Pt} (hp:∀ p ∈ ps,IsP k p p.q) (hl:ps.length<=4096) (hk:16*k+16<=134217728) {z:Pt} (hz:IsP k z z.q):Con Tryz.prog 34 [.ro cP ps,.v z.v] (.v (.tuple #[.bool (parB ps z),.int .i64 (parI ps z)])):=by
 have kcan:=canonL_q hp (show k<=134217728 by omega) (show ps.length<=140737488355328 by omega)
 have kcan2:=canonL_q (k:=k) (ps:=[z]) (fun p h=>by rw [List.mem_singleton.1 h]; exact hz) (show k<=134217728 by omega) (show 1<=140737488355328 by omega)
 have kodd:=odd_q hp hl hk hz
 obtain ⟨n,hn⟩:∃ n:Int,n=ps.length:=⟨_,rfl⟩
 have hln:std.len Pt ps=n:=by rw [s_len,hn]
 have tk9:std.tk Pt ps (std.len Pt ps)=ps:=by rw [s_tk,s_len]; exact List.take_of_length_le (by omega)
 obtain ⟨b0,eb⟩:∃ r:Bool,r=parB ps z:=⟨_,rfl⟩
 obtain ⟨r0,er⟩:∃ r:Int,r=parI ps z:=⟨_,rfl⟩
 rw [<-eb,<-er]
 unfold parB at eb
 unfold parI at er
 rw [<-hn] at eb er
 obtain ⟨c,hc⟩:∃ c,c=canL ps:=⟨_,rfl⟩
 obtain ⟨d,hd⟩:∃ c,c=canL [z]:=⟨_,rfl⟩
 obtain ⟨o,ho⟩:∃ c,c=oddQ (ps.map Pt.q) z.q:=⟨_,rfl⟩
 rw [<-hc] at kcan eb er
 rw [<-hd] at kcan2 eb er
 rw [<-ho] at kodd eb
 clear hc hd ho hp hl hk hz
 have w1:¬ c=true->false=b0/\1=r0:=fun h=>⟨by rw [eb,if_neg h],by rw [er,if_neg h]⟩
 have w2:c=true->¬ d=true->false=b0/\1=r0:=fun h h'=>⟨by rw [eb,if_pos h,if_neg h'],by rw [er,if_pos h,if_neg h']⟩
 have w3:c=true->d=true->1000 < n->false=b0/\4=r0:=fun h h' h2=>⟨by rw [eb,if_pos h,if_pos h',if_pos h2],by rw [er,if_pos h,if_pos h',if_pos h2]⟩
 have w4:c=true->d=true->¬ 1000 < n->o=b0/\0=r0:=fun h h' h2=>⟨by rw [eb,if_pos h,if_pos h',if_neg h2],by rw [er,if_pos h,if_pos h',if_neg h2]⟩
 have w5:∀ {b b':Bool} {i i':Int},b=b'/\i=i'->Value.tuple #[.bool b,.int .i64 i]=Value.tuple #[.bool b',.int .i64 i']:=fun h=>by rw [h.1,h.2]
 clear eb er
 refine Con.of ttOk mixed Tryz.func34 {} .nil 0 (by kernel_rfl) (fun P' E hP hE=>?_)
 cbv
 refine CallTo.w hP hE kcan ⟨(by subst hE; exact Sm.of (c:=cP) tk9),trivial⟩ ?_
 cbv
 refine fork.mk ?_ ?_
 ·intro g
  have c1:¬ c=true:=by subst hE; simpa [std] using g
  have hr:=w1 c1
  cbv
  exact w5 hr
 ·intro g
  have c1:c=true:=by subst hE; simpa [std] using g
  clear g
  cbv
  refine CallTo.w hP hE kcan2 ⟨⟨cP_ok,rfl,rfl,Nat.le_refl _⟩,trivial⟩ ?_
  cbv
  refine fork.mk ?_ ?_
  ·intro g
   have c2:¬ d=true:=by subst hE; simpa [std] using g
   have hr:=w2 c1 c2
   cbv
   exact w5 hr
  ·intro g
   have c2:d=true:=by subst hE; simpa [std] using g
   clear g
   cbv
   refine fork.mk ?_ ?_
   ·intro g
    have c3:1000 < n:=by subst hE; rw [<-hln]; simpa [std] using g
    have hr:=w3 c1 c2 c3
    cbv
    exact w5 hr
   ·intro g
    have c3:¬ 1000 < n:=by subst hE; rw [<-hln]; simpa [std] using g
    have hr:=w4 c1 c2 c3
    clear g
    cbv
    refine CallTo.w hP hE kodd ⟨(by subst hE; exact Sm.of (c:=cP) tk9),rfl,trivial⟩ ?_
    cbv
    exact w5 hr
end Go.Proofs.YtkipmmiiackdaaaGreat.Sx
