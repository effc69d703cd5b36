/- Part 37 of what the statement needs: an executor of Go texts, arithmetic, and contracts of the functions that are called. -/
import Derived.Test.YtkipmmiiackdaaaGreatCa35
import Derived.Test.YtkipmmiiackdaaaGreatCa36
set_option linter.unusedSimpArgs false
set_option linter.unusedVariables false
set_option maxHeartbeats 16000000
set_option maxRecDepth 100000
namespace Go.Proofs.YtkipmmiiackdaaaGreat.Sx
open Env (std)
theorem ycanon_bad {k:Nat} {ps:List Pt} (hp:∀ p ∈ ps,IsP k p p.q) (hl:ps.length<=140737488355328) (hk:40960*k+40960<=134217728) (hk1:1<=k) (hbad:canE (canL ps) (ps.map Pt.q) ≠ 0):Con Tryz.prog 18 [.ro cP ps] (.v (.tuple #[.slice none 0 0,.int .i64 (canE (canL ps) (ps.map Pt.q))])):=by
 have kcan:=ycanL_q hp (show k<=134217728 by omega) hl
 obtain ⟨n,hn⟩:∃ n:Int,n=ps.length:=⟨_,rfl⟩
 obtain ⟨A,hA⟩:∃ A,A=ps.map Pt.q:=⟨_,rfl⟩
 obtain ⟨re,hre⟩:∃ e,e=canE (canL ps) A:=⟨_,rfl⟩
 obtain ⟨rs0,hrs0⟩:∃ r,r=(canQ A).map crP:=⟨_,rfl⟩
 rw [<-hA] at hbad
 rw [<-hA,<-hre]
 rw [<-hre] at hbad
 obtain ⟨c,hc⟩:∃ c,c=canL ps:=⟨_,rfl⟩
 rw [<-hc] at kcan hre
 obtain ⟨i0,hi0⟩:∃ i:Int,i=0:=⟨_,rfl⟩
 obtain ⟨e0,he0⟩:∃ l:List Pt,l=[]:=⟨_,rfl⟩
 obtain ⟨big,hbig⟩:∃ b:Nat,b=A.length+1:=⟨_,rfl⟩
 have hbg:∀ x:Nat,x < A.length->x < big:=fun x h=>by omega
 have hln:std.len Pt ps=n:=by rw [s_len,hn]
 have tk9:std.tk Pt ps (std.len Pt ps)=ps:=by rw [s_tk,s_len]; exact List.take_of_length_le (by omega)
 have hAl:A.length=ps.length:=by rw [hA,List.length_map]
 have w1:64 < n->4=re:=fun h=>by rw [hre,canE,if_pos (by omega)]
 have w2:¬ 64 < n->¬ c=true->1=re:=fun h h'=>by rw [hre,canE,if_neg (by omega),if_pos (by simpa using h')]
 have hcan:c=true->ps=A.map crP:=fun h=>by rw [hA]; exact canL_eq (by rw [<-hc]; exact h)
 have hpA:c=true->∀ p ∈ A,IsP k (crP p) p:=fun h p hq=>by
  have h9:=hcan h
  have hm:crP p ∈ ps:=by rw [h9]; exact List.mem_map_of_mem hq
  have:=hp _ hm
  rwa [show (crP p).q=p from by show (⟨(cr p.x).q,(cr p.y).q⟩:Pq)=p; rw [cr_q,cr_q]] at this
 have hR0:c=true->RfI A (std.len Pt ps) ps A:=fun h=>⟨rfl,hcan h,Nat.le_refl _,rfl,fun p h=>h⟩
 have hA4:¬ 64 < n->A.length<=64:=fun h=>by omega
 have w9:∀ {i i':Int},i=i'->Value.tuple #[.slice none 0 0,.int .i64 i]=Value.tuple #[.slice none 0 0,.int .i64 i']:=fun h=>by rw [h]
 have hLl:∀ L zs l,RfI A L zs l->L=l.length:=fun L zs l h=>by rw [h.len,h.eq,List.length_map]
 have hrnd:¬ 64 < n->c=true->∀ L zs l,RfI A L zs l->∃ z,RfR l L zs z:=fun h h' L zs l hi=>by
  have h9:=hi.le
  have h8:=needless_q (l:=l) (fun p hq=>hpA h' p (hi.sub p hq)) (by omega) (by omega)
  rw [<-hi.eq] at h8
  exact ⟨needZ l,h8,rfl,by rw [s_tk,hi.len,Int.toNat_natCast]; exact List.take_length⟩
 have hcp0:∀ l z,CpI l z i0 i0 e0:=fun l z=>⟨by omega,by omega,by rw [he0,hi0]; rfl,by rw [he0,hi0]; rfl⟩
 have hcp:¬ 64 < n->∀ L zs l z,RfI A L zs l->0<=z->∀ i M out,CpI l z i M out->i < L->∃ k',CpF l zs L z i M out k':=fun h L zs l z hi hz i M out hj hlt=>by
  have h9:=hi.le
  exact cpF_ex hi.eq (hLl L zs l hi) (by omega) hz hj hlt
 have hcd:∀ L zs l z,RfI A L zs l->3<=L->z=needZ l->0<=z->∀ i M out,CpI l z i M out->¬ i < L->∃ l',RfI A M out l'/\l'.length < l.length:=fun L zs l z hi h3 hz hz0 i M out hj hge=>⟨_,cp_done hi h3 hj hz hz0 hge⟩
 have hstop:¬ 64 < n->c=true->∀ L zs l,RfI A L zs l->¬ 3<=L->12=re:=fun h h' L zs l hi h3=>by
  have h9:=hi.si
  have h8:=hLl L zs l hi
  rw [simpQ_stop (by omega)] at h9
  rw [hre]
  exact canE_stop h' (by omega) (by rw [<-h9]; omega)
 have hend:¬ 64 < n->c=true->∀ L zs l z,RfI A L zs l->3<=L->z=needZ l->¬ 0<=z->∃ xb ar m f1 f2 rv,RfE l zs re rs0 xb ar m f1 f2 rv:=fun h h' L zs l z hi h3 hz hz0=>by
  have h8:=hLl L zs l hi
  have hno:needI l=none:=needZ_no (by rw [<-hz]; exact hz0)
  have h9:=hi.si
  rw [simpQ_none hno] at h9
  rw [hre,hrs0]
  exact rfE_ex (hpA h') h' (by omega) hk hk1 hi.eq h9 hno (by omega)
 clear hre hrs0 hk hk1 hpA hcan hp
 refine Con.of ttOk mixed Tryz.func18 {} .nil 0 (by kernel_rfl) (fun P' E hP hE=>?_)
 cbv
 refine fork.mk ?_ ?_
 ·intro g
  have c1:64 < n:=by subst hE; rw [<-hln]; simpa [std] using g
  have hr:=w1 c1
  cbv
  exact w9 hr
 intro g
 have c1:¬ 64 < n:=by subst hE; rw [<-hln]; simpa [std] using g
 clear g
 cbv
 refine CallTo.w hP hE kcan ⟨(by subst hE; exact Sm.of (c:=cP) tk9),trivial⟩ ?_
 cbv
 refine fork.mk ?_ ?_
 ·intro g
  have c2:¬ c=true:=by subst hE; simpa [std] using g
  have hr:=w2 c1 c2
  cbv
  exact w9 hr
 intro g
 have c2:c=true:=by subst hE; simpa [std] using g
 have hrnd:=hrnd c1 c2
 have hstop:=hstop c1 c2
 have hend:=hend c1 c2
 have hcp:=hcp c1
 have hR0:=hR0 c2
 have hA4:=hA4 c1
 clear g w1 w2
 cbv
 refine LoopTo.nil 2 33 cP cP_ok rfl ?_
 refine LoopTo.by2 (ι:=Int × List Pt × List Pq) (fun x=>[(0,.s 1 x.1),(2,.any)]) (fun x=>[(1,.row true 33 cP x.2.1)]) (fun x=>RfI A x.1 x.2.1 x.2.2) (fun x=>x.2.2.length) big ?_ ?_ ?_
 ·cbv
  simp
 ·skip
  cbv
  refine fork.mk ?_ ?_
  ·intro g
   have c3:3<=(std.len Pt ps):=by subst hE; simpa [std] using g
   clear g
   refine Exists.elim (hrnd (std.len Pt ps) ps A hR0) ?_
   intro z hf
   have kn:=hf.kn
   have hz:=hf.z
   have htk:=hf.tk
   clear hf
   cbv
   refine CallTo.w hP hE kn ⟨(by subst hE; exact Sm.of (c:=cP) htk),trivial⟩ ?_
   cbv
   refine fork.mk ?_ ?_
   ·intro g
    have c4:0<=z:=by subst hE; simpa [std] using g
    have hq0:=hcp0 A z
    have hq:=hcp (std.len Pt ps) ps A z hR0 c4
    have hqd:=hcd (std.len Pt ps) ps A z hR0 c3 hz c4
    clear g
    cbv
    refine CallTo.w hP hE kn ⟨(by subst hE; exact Sm.of (c:=cP) htk),trivial⟩ ?_
    cbv
    refine LoopTo.nil 5 33 cP cP_ok rfl ?_
    refine LoopTo.by (ι:=Int × Int × List Pt) (fun x=>[(5,.s 2 x.2.1),(6,.v (.int .i64 x.1))]) (fun x=>[(2,.row true 33 cP x.2.2)]) (fun x=>CpI A z x.1 x.2.1 x.2.2) (fun x=>((std.len Pt ps) - x.1).toNat) (i0,i0,e0) [] hq0 ?_ ?_
    ·cbv
     subst hE
     and_intros
     all_goals first
      | exact True.intro
      | rfl
      | exact vi hi0.symm
      | exact vj hi0.symm
      | exact congrArg (fun x=>AV.s 2 x) hi0.symm
      | exact Sm.of he0.symm
      | (intro h; cases h; done)
      | (simp; done)
    ·rintro ⟨i,M,out⟩ hj
     have hj:CpI A z i M out:=hj
     clear hq0
     cbv
     refine fork.mk ?_ ?_
     ·intro g
      have hlt:i < (std.len Pt ps):=by subst hE; simpa [std] using g
      refine Exists.elim (hq i M out hj hlt) ?_
      intro j hf
      have in1:=hf.in1
      have hadd:=hf.add
      have hyes:=hf.yes
      have hno:=hf.no
      have hmu:=hf.mu
      clear hf hj g hlt hq hqd
      cbv
      refine fork.mk ?_ ?_
      ·intro g
       have c5:¬ i=z:=by subst hE; simpa [std] using g
       refine Exists.elim (hno c5) ?_
       intro M' h
       refine Exists.elim h ?_
       intro out' hf
       have happ:=hf.1
       have hfit:=hf.2.1
       have hlen9:=hf.2.2.1
       have hinv:=hf.2.2.2
       clear hf h hno hyes g
       cbv
       refine Need.mk (by subst hE; exact in1) ?_
       cbv
       refine Need.mk (by subst hE; exact hfit) ?_
       cbv
       refine ⟨(j,M',out'),[0,1,4],hinv,hmu,?_⟩
       cbv
       subst hE
       and_intros
       all_goals first
        | exact True.intro
        | rfl
        | exact vi hadd
        | exact vj hadd
        | exact congrArg (fun x=>AV.s 4 x) hlen9
        | exact Sm.of happ
        | (intro h; cases h; done)
        | (simp; done)
      ·intro g
       have c5:i=z:=by subst hE; simpa [std] using g
       have hinv:=hyes c5
       clear hno hyes g
       cbv
       refine ⟨(j,M,out),[],hinv,hmu,?_⟩
       cbv
       subst hE
       and_intros
       all_goals first
        | exact True.intro
        | rfl
        | exact vi hadd
        | exact vj hadd
        | (intro h; cases h; done)
        | (simp; done)
     ·intro g
      have hge:¬ i < (std.len Pt ps):=by subst hE; simpa [std] using g
      refine Exists.elim (hqd i M out hj hge) ?_
      intro l' hf
      have hinv:=hf.1
      have hmu:=hbg _ hf.2
      clear hf hqd hq hj g hge
      cbv
      refine ⟨some (M,out,l'),[0,2],hinv,hmu,?_⟩
      cbv
      subst hE
      and_intros
      all_goals first
       | exact True.intro
       | rfl
       | (intro h; cases h; done)
       | (simp; done)
   ·intro g
    have c4:¬ 0<=z:=by subst hE; simpa [std] using g
    have hx:=hend (std.len Pt ps) ps A z hR0 c3 hz c4
    have hLl:=hLl (std.len Pt ps) ps A hR0
    have hzl:=(hR0).eq
    have hle:=(hR0).le
    clear g hcp hcd hrnd hstop hend
    cbv
    refine forkNo (by subst hE; exact decide_eq_false (Int.not_lt.2 c3)) ?_
    cbv
    refine Exists.elim hx ?_
    intro xb h
    refine Exists.elim h ?_
    intro ar h
    refine Exists.elim h ?_
    intro m h
    refine Exists.elim h ?_
    intro f1 h
    refine Exists.elim h ?_
    intro f2 h
    refine Exists.elim h ?_
    intro rv hf
    have kx:=hf.kx
    have x13:=hf.x13
    have re0:=hf.re0
    have ka:=hf.ka
    have ks:=hf.ks
    have kt:=hf.kt
    have htr:=hf.tr
    have hrl:=hf.rl
    have her:=hf.er
    have k1:=hf.k1
    have k2:=hf.k2
    have he1:=hf.e1
    have he2:=hf.e2
    have hneg:=hf.neg
    have hpos:=hf.pos
    clear hf h hx
    refine CallTo.w hP hE kx ⟨(by subst hE; exact Sm.of (c:=cP) htk),trivial⟩ ?_
    cbv
    refine fork.mk ?_ ?_
    ·intro g
     have hr:=x13 (by simpa using g)
     cbv
     exact w9 hr
    ·intro g
     have hr:=re0 (by simpa using g)
     exact absurd hr.symm hbad
  ·intro g
   have c3:¬ 3<=(std.len Pt ps):=by subst hE; simpa [std] using g
   have hr:=hstop (std.len Pt ps) ps A hR0 c3
   cbv
   refine forkYes (by subst hE; exact decide_eq_true (Int.not_le.1 c3)) ?_
   cbv
   exact w9 hr
 ·rintro ⟨L,zs,l⟩ hI
  have hI:RfI A L zs l:=hI
  cbv
  refine fork.mk ?_ ?_
  ·intro g
   have c3:3<=L:=by subst hE; simpa [std] using g
   clear g
   refine Exists.elim (hrnd L zs l hI) ?_
   intro z hf
   have kn:=hf.kn
   have hz:=hf.z
   have htk:=hf.tk
   clear hf
   cbv
   refine CallTo.w hP hE kn ⟨(by subst hE; exact Sm.of (c:=cP) htk),trivial⟩ ?_
   cbv
   refine fork.mk ?_ ?_
   ·intro g
    have c4:0<=z:=by subst hE; simpa [std] using g
    have hq0:=hcp0 l z
    have hq:=hcp L zs l z hI c4
    have hqd:=hcd L zs l z hI c3 hz c4
    clear g
    cbv
    refine CallTo.w hP hE kn ⟨(by subst hE; exact Sm.of (c:=cP) htk),trivial⟩ ?_
    cbv
    refine LoopTo.nil 5 33 cP cP_ok rfl ?_
    refine LoopTo.by (ι:=Int × Int × List Pt) (fun x=>[(5,.s 2 x.2.1),(6,.v (.int .i64 x.1))]) (fun x=>[(2,.row true 33 cP x.2.2)]) (fun x=>CpI l z x.1 x.2.1 x.2.2) (fun x=>(L - x.1).toNat) (i0,i0,e0) [] hq0 ?_ ?_
    ·cbv
     subst hE
     and_intros
     all_goals first
      | exact True.intro
      | rfl
      | exact vi hi0.symm
      | exact vj hi0.symm
      | exact congrArg (fun x=>AV.s 2 x) hi0.symm
      | exact Sm.of he0.symm
      | (intro h; cases h; done)
      | (simp; done)
    ·rintro ⟨i,M,out⟩ hj
     have hj:CpI l z i M out:=hj
     clear hq0
     cbv
     refine fork.mk ?_ ?_
     ·intro g
      have hlt:i < L:=by subst hE; simpa [std] using g
      refine Exists.elim (hq i M out hj hlt) ?_
      intro j hf
      have in1:=hf.in1
      have hadd:=hf.add
      have hyes:=hf.yes
      have hno:=hf.no
      have hmu:=hf.mu
      clear hf hj g hlt hq hqd
      cbv
      refine fork.mk ?_ ?_
      ·intro g
       have c5:¬ i=z:=by subst hE; simpa [std] using g
       refine Exists.elim (hno c5) ?_
       intro M' h
       refine Exists.elim h ?_
       intro out' hf
       have happ:=hf.1
       have hfit:=hf.2.1
       have hlen9:=hf.2.2.1
       have hinv:=hf.2.2.2
       clear hf h hno hyes g
       cbv
       refine Need.mk (by subst hE; exact in1) ?_
       cbv
       refine Need.mk (by subst hE; exact hfit) ?_
       cbv
       refine ⟨(j,M',out'),[0,1,4],hinv,hmu,?_⟩
       cbv
       subst hE
       and_intros
       all_goals first
        | exact True.intro
        | rfl
        | exact vi hadd
        | exact vj hadd
        | exact congrArg (fun x=>AV.s 4 x) hlen9
        | exact Sm.of happ
        | (intro h; cases h; done)
        | (simp; done)
      ·intro g
       have c5:i=z:=by subst hE; simpa [std] using g
       have hinv:=hyes c5
       clear hno hyes g
       cbv
       refine ⟨(j,M,out),[],hinv,hmu,?_⟩
       cbv
       subst hE
       and_intros
       all_goals first
        | exact True.intro
        | rfl
        | exact vi hadd
        | exact vj hadd
        | (intro h; cases h; done)
        | (simp; done)
     ·intro g
      have hge:¬ i < L:=by subst hE; simpa [std] using g
      refine Exists.elim (hqd i M out hj hge) ?_
      intro l' hf
      have hinv:=hf.1
      have hmu:=hf.2
      clear hf hqd hq hj g hge
      cbv
      refine ⟨some (M,out,l'),[0,2],hinv,hmu,?_⟩
      cbv
      subst hE
      and_intros
      all_goals first
       | exact True.intro
       | rfl
       | (intro h; cases h; done)
       | (simp; done)
   ·intro g
    have c4:¬ 0<=z:=by subst hE; simpa [std] using g
    have hx:=hend L zs l z hI c3 hz c4
    have hLl:=hLl L zs l hI
    have hzl:=(hI).eq
    have hle:=(hI).le
    clear g hcp hcd hrnd hstop hend
    cbv
    refine forkNo (by subst hE; exact decide_eq_false (Int.not_lt.2 c3)) ?_
    cbv
    refine Exists.elim hx ?_
    intro xb h
    refine Exists.elim h ?_
    intro ar h
    refine Exists.elim h ?_
    intro m h
    refine Exists.elim h ?_
    intro f1 h
    refine Exists.elim h ?_
    intro f2 h
    refine Exists.elim h ?_
    intro rv hf
    have kx:=hf.kx
    have x13:=hf.x13
    have re0:=hf.re0
    have ka:=hf.ka
    have ks:=hf.ks
    have kt:=hf.kt
    have htr:=hf.tr
    have hrl:=hf.rl
    have her:=hf.er
    have k1:=hf.k1
    have k2:=hf.k2
    have he1:=hf.e1
    have he2:=hf.e2
    have hneg:=hf.neg
    have hpos:=hf.pos
    clear hf h hx
    refine CallTo.w hP hE kx ⟨(by subst hE; exact Sm.of (c:=cP) htk),trivial⟩ ?_
    cbv
    refine fork.mk ?_ ?_
    ·intro g
     have hr:=x13 (by simpa using g)
     cbv
     exact w9 hr
    ·intro g
     have hr:=re0 (by simpa using g)
     exact absurd hr.symm hbad
  ·intro g
   have c3:¬ 3<=L:=by subst hE; simpa [std] using g
   have hr:=hstop L zs l hI c3
   cbv
   refine forkYes (by subst hE; exact decide_eq_true (Int.not_le.1 c3)) ?_
   cbv
   exact w9 hr
theorem ycanon_ok {k:Nat} {ps:List Pt} (hp:∀ p ∈ ps,IsP k p p.q) (hl:ps.length<=140737488355328) (hk:40960*k+40960<=134217728) (hk1:1<=k) (hgood:canE (canL ps) (ps.map Pt.q)=0):Con Tryz.prog 18 [.ro cP ps] (.tup [.own 33 cP ((canQ (ps.map Pt.q)).map crP),.v (.int .i64 0)]):=by
 have kcan:=ycanL_q hp (show k<=134217728 by omega) hl
 obtain ⟨n,hn⟩:∃ n:Int,n=ps.length:=⟨_,rfl⟩
 obtain ⟨A,hA⟩:∃ A,A=ps.map Pt.q:=⟨_,rfl⟩
 obtain ⟨re,hre⟩:∃ e,e=canE (canL ps) A:=⟨_,rfl⟩
 obtain ⟨rs0,hrs0⟩:∃ r,r=(canQ A).map crP:=⟨_,rfl⟩
 rw [<-hA,<-hre] at hgood
 rw [<-hA,<-hrs0]
 obtain ⟨c,hc⟩:∃ c,c=canL ps:=⟨_,rfl⟩
 rw [<-hc] at kcan hre
 obtain ⟨i0,hi0⟩:∃ i:Int,i=0:=⟨_,rfl⟩
 obtain ⟨e0,he0⟩:∃ l:List Pt,l=[]:=⟨_,rfl⟩
 obtain ⟨big,hbig⟩:∃ b:Nat,b=A.length+1:=⟨_,rfl⟩
 have hbg:∀ x:Nat,x < A.length->x < big:=fun x h=>by omega
 have hln:std.len Pt ps=n:=by rw [s_len,hn]
 have tk9:std.tk Pt ps (std.len Pt ps)=ps:=by rw [s_tk,s_len]; exact List.take_of_length_le (by omega)
 have hAl:A.length=ps.length:=by rw [hA,List.length_map]
 have w1:64 < n->4=re:=fun h=>by rw [hre,canE,if_pos (by omega)]
 have w2:¬ 64 < n->¬ c=true->1=re:=fun h h'=>by rw [hre,canE,if_neg (by omega),if_pos (by simpa using h')]
 have hcan:c=true->ps=A.map crP:=fun h=>by rw [hA]; exact canL_eq (by rw [<-hc]; exact h)
 have hpA:c=true->∀ p ∈ A,IsP k (crP p) p:=fun h p hq=>by
  have h9:=hcan h
  have hm:crP p ∈ ps:=by rw [h9]; exact List.mem_map_of_mem hq
  have:=hp _ hm
  rwa [show (crP p).q=p from by show (⟨(cr p.x).q,(cr p.y).q⟩:Pq)=p; rw [cr_q,cr_q]] at this
 have hR0:c=true->RfI A (std.len Pt ps) ps A:=fun h=>⟨rfl,hcan h,Nat.le_refl _,rfl,fun p h=>h⟩
 have hA4:¬ 64 < n->A.length<=64:=fun h=>by omega
 have w9:∀ {i i':Int},i=i'->Value.tuple #[.slice none 0 0,.int .i64 i]=Value.tuple #[.slice none 0 0,.int .i64 i']:=fun h=>by rw [h]
 have hLl:∀ L zs l,RfI A L zs l->L=l.length:=fun L zs l h=>by rw [h.len,h.eq,List.length_map]
 have hrnd:¬ 64 < n->c=true->∀ L zs l,RfI A L zs l->∃ z,RfR l L zs z:=fun h h' L zs l hi=>by
  have h9:=hi.le
  have h8:=needless_q (l:=l) (fun p hq=>hpA h' p (hi.sub p hq)) (by omega) (by omega)
  rw [<-hi.eq] at h8
  exact ⟨needZ l,h8,rfl,by rw [s_tk,hi.len,Int.toNat_natCast]; exact List.take_length⟩
 have hcp0:∀ l z,CpI l z i0 i0 e0:=fun l z=>⟨by omega,by omega,by rw [he0,hi0]; rfl,by rw [he0,hi0]; rfl⟩
 have hcp:¬ 64 < n->∀ L zs l z,RfI A L zs l->0<=z->∀ i M out,CpI l z i M out->i < L->∃ k',CpF l zs L z i M out k':=fun h L zs l z hi hz i M out hj hlt=>by
  have h9:=hi.le
  exact cpF_ex hi.eq (hLl L zs l hi) (by omega) hz hj hlt
 have hcd:∀ L zs l z,RfI A L zs l->3<=L->z=needZ l->0<=z->∀ i M out,CpI l z i M out->¬ i < L->∃ l',RfI A M out l'/\l'.length < l.length:=fun L zs l z hi h3 hz hz0 i M out hj hge=>⟨_,cp_done hi h3 hj hz hz0 hge⟩
 have hstop:¬ 64 < n->c=true->∀ L zs l,RfI A L zs l->¬ 3<=L->12=re:=fun h h' L zs l hi h3=>by
  have h9:=hi.si
  have h8:=hLl L zs l hi
  rw [simpQ_stop (by omega)] at h9
  rw [hre]
  exact canE_stop h' (by omega) (by rw [<-h9]; omega)
 have hend:¬ 64 < n->c=true->∀ L zs l z,RfI A L zs l->3<=L->z=needZ l->¬ 0<=z->∃ xb ar m f1 f2 rv,RfE l zs re rs0 xb ar m f1 f2 rv:=fun h h' L zs l z hi h3 hz hz0=>by
  have h8:=hLl L zs l hi
  have hno:needI l=none:=needZ_no (by rw [<-hz]; exact hz0)
  have h9:=hi.si
  rw [simpQ_none hno] at h9
  rw [hre,hrs0]
  exact rfE_ex (hpA h') h' (by omega) hk hk1 hi.eq h9 hno (by omega)
 clear hre hrs0 hk hk1 hpA hcan hp
 refine Con.of ttOk mixed Tryz.func18 {} .nil 0 (by kernel_rfl) (fun P' E hP hE=>?_)
 cbv
 refine fork.mk ?_ ?_
 ·intro g
  have c1:64 < n:=by subst hE; rw [<-hln]; simpa [std] using g
  have hr:=w1 c1
  exact absurd hr (by rw [hgood]; decide)
 intro g
 have c1:¬ 64 < n:=by subst hE; rw [<-hln]; simpa [std] using g
 clear g
 cbv
 refine CallTo.w hP hE kcan ⟨(by subst hE; exact Sm.of (c:=cP) tk9),trivial⟩ ?_
 cbv
 refine fork.mk ?_ ?_
 ·intro g
  have c2:¬ c=true:=by subst hE; simpa [std] using g
  have hr:=w2 c1 c2
  exact absurd hr (by rw [hgood]; decide)
 intro g
 have c2:c=true:=by subst hE; simpa [std] using g
 have hrnd:=hrnd c1 c2
 have hstop:=hstop c1 c2
 have hend:=hend c1 c2
 have hcp:=hcp c1
 have hR0:=hR0 c2
 have hA4:=hA4 c1
 clear g w1 w2
 cbv
 refine LoopTo.nil 2 33 cP cP_ok rfl ?_
 refine LoopTo.by2 (ι:=Int × List Pt × List Pq) (fun x=>[(0,.s 1 x.1),(2,.any)]) (fun x=>[(1,.row true 33 cP x.2.1)]) (fun x=>RfI A x.1 x.2.1 x.2.2) (fun x=>x.2.2.length) big ?_ ?_ ?_
 ·cbv
  simp
 ·skip
  cbv
  refine fork.mk ?_ ?_
  ·intro g
   have c3:3<=(std.len Pt ps):=by subst hE; simpa [std] using g
   clear g
   refine Exists.elim (hrnd (std.len Pt ps) ps A hR0) ?_
   intro z hf
   have kn:=hf.kn
   have hz:=hf.z
   have htk:=hf.tk
   clear hf
   cbv
   refine CallTo.w hP hE kn ⟨(by subst hE; exact Sm.of (c:=cP) htk),trivial⟩ ?_
   cbv
   refine fork.mk ?_ ?_
   ·intro g
    have c4:0<=z:=by subst hE; simpa [std] using g
    have hq0:=hcp0 A z
    have hq:=hcp (std.len Pt ps) ps A z hR0 c4
    have hqd:=hcd (std.len Pt ps) ps A z hR0 c3 hz c4
    clear g
    cbv
    refine CallTo.w hP hE kn ⟨(by subst hE; exact Sm.of (c:=cP) htk),trivial⟩ ?_
    cbv
    refine LoopTo.nil 5 33 cP cP_ok rfl ?_
    refine LoopTo.by (ι:=Int × Int × List Pt) (fun x=>[(5,.s 2 x.2.1),(6,.v (.int .i64 x.1))]) (fun x=>[(2,.row true 33 cP x.2.2)]) (fun x=>CpI A z x.1 x.2.1 x.2.2) (fun x=>((std.len Pt ps) - x.1).toNat) (i0,i0,e0) [] hq0 ?_ ?_
    ·cbv
     subst hE
     and_intros
     all_goals first
      | exact True.intro
      | rfl
      | exact vi hi0.symm
      | exact vj hi0.symm
      | exact congrArg (fun x=>AV.s 2 x) hi0.symm
      | exact Sm.of he0.symm
      | (intro h; cases h; done)
      | (simp; done)
    ·rintro ⟨i,M,out⟩ hj
     have hj:CpI A z i M out:=hj
     clear hq0
     cbv
     refine fork.mk ?_ ?_
     ·intro g
      have hlt:i < (std.len Pt ps):=by subst hE; simpa [std] using g
      refine Exists.elim (hq i M out hj hlt) ?_
      intro j hf
      have in1:=hf.in1
      have hadd:=hf.add
      have hyes:=hf.yes
      have hno:=hf.no
      have hmu:=hf.mu
      clear hf hj g hlt hq hqd
      cbv
      refine fork.mk ?_ ?_
      ·intro g
       have c5:¬ i=z:=by subst hE; simpa [std] using g
       refine Exists.elim (hno c5) ?_
       intro M' h
       refine Exists.elim h ?_
       intro out' hf
       have happ:=hf.1
       have hfit:=hf.2.1
       have hlen9:=hf.2.2.1
       have hinv:=hf.2.2.2
       clear hf h hno hyes g
       cbv
       refine Need.mk (by subst hE; exact in1) ?_
       cbv
       refine Need.mk (by subst hE; exact hfit) ?_
       cbv
       refine ⟨(j,M',out'),[0,1,4],hinv,hmu,?_⟩
       cbv
       subst hE
       and_intros
       all_goals first
        | exact True.intro
        | rfl
        | exact vi hadd
        | exact vj hadd
        | exact congrArg (fun x=>AV.s 4 x) hlen9
        | exact Sm.of happ
        | (intro h; cases h; done)
        | (simp; done)
      ·intro g
       have c5:i=z:=by subst hE; simpa [std] using g
       have hinv:=hyes c5
       clear hno hyes g
       cbv
       refine ⟨(j,M,out),[],hinv,hmu,?_⟩
       cbv
       subst hE
       and_intros
       all_goals first
        | exact True.intro
        | rfl
        | exact vi hadd
        | exact vj hadd
        | (intro h; cases h; done)
        | (simp; done)
     ·intro g
      have hge:¬ i < (std.len Pt ps):=by subst hE; simpa [std] using g
      refine Exists.elim (hqd i M out hj hge) ?_
      intro l' hf
      have hinv:=hf.1
      have hmu:=hbg _ hf.2
      clear hf hqd hq hj g hge
      cbv
      refine ⟨some (M,out,l'),[0,2],hinv,hmu,?_⟩
      cbv
      subst hE
      and_intros
      all_goals first
       | exact True.intro
       | rfl
       | (intro h; cases h; done)
       | (simp; done)
   ·intro g
    have c4:¬ 0<=z:=by subst hE; simpa [std] using g
    have hx:=hend (std.len Pt ps) ps A z hR0 c3 hz c4
    have hLl:=hLl (std.len Pt ps) ps A hR0
    have hzl:=(hR0).eq
    have hle:=(hR0).le
    clear g hcp hcd hrnd hstop hend
    cbv
    refine forkNo (by subst hE; exact decide_eq_false (Int.not_lt.2 c3)) ?_
    cbv
    refine Exists.elim hx ?_
    intro xb h
    refine Exists.elim h ?_
    intro ar h
    refine Exists.elim h ?_
    intro m h
    refine Exists.elim h ?_
    intro f1 h
    refine Exists.elim h ?_
    intro f2 h
    refine Exists.elim h ?_
    intro rv hf
    have kx:=hf.kx
    have x13:=hf.x13
    have re0:=hf.re0
    have ka:=hf.ka
    have ks:=hf.ks
    have kt:=hf.kt
    have htr:=hf.tr
    have hrl:=hf.rl
    have her:=hf.er
    have k1:=hf.k1
    have k2:=hf.k2
    have he1:=hf.e1
    have he2:=hf.e2
    have hneg:=hf.neg
    have hpos:=hf.pos
    clear hf h hx
    refine CallTo.w hP hE kx ⟨(by subst hE; exact Sm.of (c:=cP) htk),trivial⟩ ?_
    cbv
    refine fork.mk ?_ ?_
    ·intro g
     have hr:=x13 (by simpa using g)
     exact absurd hr (by rw [hgood]; decide)
    intro g
    clear x13 re0 g
    cbv
    refine CallTo.w hP hE ka ⟨(by subst hE; exact Sm.of (c:=cP) htk),trivial⟩ ?_
    cbv
    refine CallTo.w hP hE ks ⟨rfl,trivial⟩ ?_
    cbv
    refine fork.mk ?_ ?_
    ·intro g
     have c5:m < 0:=by subst hE; simpa [std] using g
     have hrs:=hneg c5
     clear hneg hpos g
     cbv
     refine CallTo.con hP hE kt ⟨(by subst hE; exact Sm.of (c:=cP) htk),trivial⟩ ?_
     cbv
     refine CallTo.w hP hE k2 ⟨(by subst hE; exact Sm.of (c:=cP) htr),trivial⟩ ?_
     have hOl:(std.len Pt rv)=(A.reverse.length:Int):=by rw [hrl,List.length_reverse]
     have hO4:A.reverse.length<=4096:=by rw [List.length_reverse]; omega
     have hB0:BlI A.reverse i0 i0 e0:=⟨by omega,by omega,by rw [hi0,he0]; rfl,by rw [he0,hi0]; rfl⟩
     have hbl:∀ i M out,BlI A.reverse i M out->i < (std.len Pt rv)->∃ a r j M' p out',BlF A.reverse rv (std.len Pt rv) f2 i M out a r j M' p out':=fun i M out h h'=>blF_ex her hOl hO4 he2 h h'
     have hbd:∀ i M out,BlI A.reverse i M out->¬ i < (std.len Pt rv)->std.tk Pt out M=rs0:=fun i M out h h'=>by
      rw [hrs]; exact bl_done hOl h h'
     cbv
     refine LoopTo.nil 7 33 cP cP_ok rfl ?_
     refine LoopTo.by (ι:=Int × Int × List Pt) (fun x=>[(7,.s 3 x.2.1),(9,.v (.int .i64 x.1))]) (fun x=>[(3,.row true 33 cP x.2.2)]) (fun x=>BlI A.reverse x.1 x.2.1 x.2.2) (fun x=>((std.len Pt rv) - x.1).toNat) (i0,i0,e0) [] hB0 ?_ ?_
     ·cbv
      subst hE
      and_intros
      all_goals first
       | exact True.intro
       | rfl
       | exact vi hi0.symm
       | exact vj hi0.symm
       | exact congrArg (fun x=>AV.s 3 x) hi0.symm
       | exact Sm.of he0.symm
       | (intro h; cases h; done)
       | (simp; done)
     ·rintro ⟨i,M,out⟩ hj
      have hj:BlI A.reverse i M out:=hj
      clear hB0
      cbv
      refine fork.mk ?_ ?_
      ·intro g
       have hlt:i < (std.len Pt rv):=by subst hE; simpa [std] using g
       refine Exists.elim (hbl i M out hj hlt) ?_
       intro a h
       refine Exists.elim h ?_
       intro r h
       refine Exists.elim h ?_
       intro j h
       refine Exists.elim h ?_
       intro M' h
       refine Exists.elim h ?_
       intro p h
       refine Exists.elim h ?_
       intro out' hf
       have hnz:std.nz .rem (std.len Pt rv):=hf.nz
       have in1:0<=std.ib .rem .i64 (std.ib .add .i64 f2 i) (std.len Pt rv)/\std.ib .rem .i64 (std.ib .add .i64 f2 i) (std.len Pt rv) < (std.len Pt rv):=by rw [hf.e1,hf.e2]; exact hf.in1
       have hg1:std.get Pt rv (std.ib .rem .i64 (std.ib .add .i64 f2 i) (std.len Pt rv)) zQ=p:=by rw [hf.e1,hf.e2]; exact hf.g1
       have happ:std.app Pt (std.tk Pt out M) [std.get Pt rv (std.ib .rem .i64 (std.ib .add .i64 f2 i) (std.len Pt rv)) zQ]=out':=by rw [hg1]; exact hf.app
       have hfit:=hf.fit
       have hlen9:=hf.len
       have hadd:=hf.add
       have hinv:=hf.inv
       have hmu:=hf.mu
       clear hf h hj g hlt hbl hbd
       cbv
       refine Need.mk (by subst hE; exact hnz) ?_
       cbv
       refine Need.mk (by subst hE; exact in1) ?_
       cbv
       refine Need.mk (by subst hE; exact hfit) ?_
       cbv
       refine ⟨(j,M',out'),[0,1,2,5],hinv,hmu,?_⟩
       cbv
       subst hE
       and_intros
       all_goals first
        | exact True.intro
        | rfl
        | exact vi hadd
        | exact vj hadd
        | exact congrArg (fun x=>AV.s 5 x) hlen9
        | exact Sm.of happ
        | (intro h; cases h; done)
        | (simp; done)
      ·intro g
       have hge:¬ i < (std.len Pt rv):=by subst hE; simpa [std] using g
       have hM:=hbd i M out hj hge
       cbv
       subst hE
       exact ⟨Sm.of (c:=cP) hM,trivial⟩
    ·intro g
     have c5:¬ m < 0:=by subst hE; simpa [std] using g
     have hrs:=hpos c5
     clear hneg hpos g
     cbv
     refine CallTo.w hP hE k1 ⟨(by subst hE; exact Sm.of (c:=cP) htk),trivial⟩ ?_
     have hOl:(std.len Pt ps)=(A.length:Int):=hLl
     have hO4:A.length<=4096:=by omega
     have hB0:BlI A i0 i0 e0:=⟨by omega,by omega,by rw [hi0,he0]; rfl,by rw [he0,hi0]; rfl⟩
     have hbl:∀ i M out,BlI A i M out->i < (std.len Pt ps)->∃ a r j M' p out',BlF A ps (std.len Pt ps) f1 i M out a r j M' p out':=fun i M out h h'=>blF_ex hzl hOl hO4 he1 h h'
     have hbd:∀ i M out,BlI A i M out->¬ i < (std.len Pt ps)->std.tk Pt out M=rs0:=fun i M out h h'=>by
      rw [hrs]; exact bl_done hOl h h'
     cbv
     refine LoopTo.nil 7 33 cP cP_ok rfl ?_
     refine LoopTo.by (ι:=Int × Int × List Pt) (fun x=>[(7,.s 2 x.2.1),(9,.v (.int .i64 x.1))]) (fun x=>[(2,.row true 33 cP x.2.2)]) (fun x=>BlI A x.1 x.2.1 x.2.2) (fun x=>((std.len Pt ps) - x.1).toNat) (i0,i0,e0) [] hB0 ?_ ?_
     ·cbv
      subst hE
      and_intros
      all_goals first
       | exact True.intro
       | rfl
       | exact vi hi0.symm
       | exact vj hi0.symm
       | exact congrArg (fun x=>AV.s 2 x) hi0.symm
       | exact Sm.of he0.symm
       | (intro h; cases h; done)
       | (simp; done)
     ·rintro ⟨i,M,out⟩ hj
      have hj:BlI A i M out:=hj
      clear hB0
      cbv
      refine fork.mk ?_ ?_
      ·intro g
       have hlt:i < (std.len Pt ps):=by subst hE; simpa [std] using g
       refine Exists.elim (hbl i M out hj hlt) ?_
       intro a h
       refine Exists.elim h ?_
       intro r h
       refine Exists.elim h ?_
       intro j h
       refine Exists.elim h ?_
       intro M' h
       refine Exists.elim h ?_
       intro p h
       refine Exists.elim h ?_
       intro out' hf
       have hnz:std.nz .rem (std.len Pt ps):=hf.nz
       have in1:0<=std.ib .rem .i64 (std.ib .add .i64 f1 i) (std.len Pt ps)/\std.ib .rem .i64 (std.ib .add .i64 f1 i) (std.len Pt ps) < (std.len Pt ps):=by rw [hf.e1,hf.e2]; exact hf.in1
       have hg1:std.get Pt ps (std.ib .rem .i64 (std.ib .add .i64 f1 i) (std.len Pt ps)) zQ=p:=by rw [hf.e1,hf.e2]; exact hf.g1
       have happ:std.app Pt (std.tk Pt out M) [std.get Pt ps (std.ib .rem .i64 (std.ib .add .i64 f1 i) (std.len Pt ps)) zQ]=out':=by rw [hg1]; exact hf.app
       have hfit:=hf.fit
       have hlen9:=hf.len
       have hadd:=hf.add
       have hinv:=hf.inv
       have hmu:=hf.mu
       clear hf h hj g hlt hbl hbd
       cbv
       refine Need.mk (by subst hE; exact hnz) ?_
       cbv
       refine Need.mk (by subst hE; exact in1) ?_
       cbv
       refine Need.mk (by subst hE; exact hfit) ?_
       cbv
       refine ⟨(j,M',out'),[0,1,4],hinv,hmu,?_⟩
       cbv
       subst hE
       and_intros
       all_goals first
        | exact True.intro
        | rfl
        | exact vi hadd
        | exact vj hadd
        | exact congrArg (fun x=>AV.s 4 x) hlen9
        | exact Sm.of happ
        | (intro h; cases h; done)
        | (simp; done)
      ·intro g
       have hge:¬ i < (std.len Pt ps):=by subst hE; simpa [std] using g
       have hM:=hbd i M out hj hge
       cbv
       subst hE
       exact ⟨Sm.of (c:=cP) hM,trivial⟩
  ·intro g
   have c3:¬ 3<=(std.len Pt ps):=by subst hE; simpa [std] using g
   have hr:=hstop (std.len Pt ps) ps A hR0 c3
   exact absurd hr (by rw [hgood]; decide)
 ·rintro ⟨L,zs,l⟩ hI
  have hI:RfI A L zs l:=hI
  cbv
  refine fork.mk ?_ ?_
  ·intro g
   have c3:3<=L:=by subst hE; simpa [std] using g
   clear g
   refine Exists.elim (hrnd L zs l hI) ?_
   intro z hf
   have kn:=hf.kn
   have hz:=hf.z
   have htk:=hf.tk
   clear hf
   cbv
   refine CallTo.w hP hE kn ⟨(by subst hE; exact Sm.of (c:=cP) htk),trivial⟩ ?_
   cbv
   refine fork.mk ?_ ?_
   ·intro g
    have c4:0<=z:=by subst hE; simpa [std] using g
    have hq0:=hcp0 l z
    have hq:=hcp L zs l z hI c4
    have hqd:=hcd L zs l z hI c3 hz c4
    clear g
    cbv
    refine CallTo.w hP hE kn ⟨(by subst hE; exact Sm.of (c:=cP) htk),trivial⟩ ?_
    cbv
    refine LoopTo.nil 5 33 cP cP_ok rfl ?_
    refine LoopTo.by (ι:=Int × Int × List Pt) (fun x=>[(5,.s 2 x.2.1),(6,.v (.int .i64 x.1))]) (fun x=>[(2,.row true 33 cP x.2.2)]) (fun x=>CpI l z x.1 x.2.1 x.2.2) (fun x=>(L - x.1).toNat) (i0,i0,e0) [] hq0 ?_ ?_
    ·cbv
     subst hE
     and_intros
     all_goals first
      | exact True.intro
      | rfl
      | exact vi hi0.symm
      | exact vj hi0.symm
      | exact congrArg (fun x=>AV.s 2 x) hi0.symm
      | exact Sm.of he0.symm
      | (intro h; cases h; done)
      | (simp; done)
    ·rintro ⟨i,M,out⟩ hj
     have hj:CpI l z i M out:=hj
     clear hq0
     cbv
     refine fork.mk ?_ ?_
     ·intro g
      have hlt:i < L:=by subst hE; simpa [std] using g
      refine Exists.elim (hq i M out hj hlt) ?_
      intro j hf
      have in1:=hf.in1
      have hadd:=hf.add
      have hyes:=hf.yes
      have hno:=hf.no
      have hmu:=hf.mu
      clear hf hj g hlt hq hqd
      cbv
      refine fork.mk ?_ ?_
      ·intro g
       have c5:¬ i=z:=by subst hE; simpa [std] using g
       refine Exists.elim (hno c5) ?_
       intro M' h
       refine Exists.elim h ?_
       intro out' hf
       have happ:=hf.1
       have hfit:=hf.2.1
       have hlen9:=hf.2.2.1
       have hinv:=hf.2.2.2
       clear hf h hno hyes g
       cbv
       refine Need.mk (by subst hE; exact in1) ?_
       cbv
       refine Need.mk (by subst hE; exact hfit) ?_
       cbv
       refine ⟨(j,M',out'),[0,1,4],hinv,hmu,?_⟩
       cbv
       subst hE
       and_intros
       all_goals first
        | exact True.intro
        | rfl
        | exact vi hadd
        | exact vj hadd
        | exact congrArg (fun x=>AV.s 4 x) hlen9
        | exact Sm.of happ
        | (intro h; cases h; done)
        | (simp; done)
      ·intro g
       have c5:i=z:=by subst hE; simpa [std] using g
       have hinv:=hyes c5
       clear hno hyes g
       cbv
       refine ⟨(j,M,out),[],hinv,hmu,?_⟩
       cbv
       subst hE
       and_intros
       all_goals first
        | exact True.intro
        | rfl
        | exact vi hadd
        | exact vj hadd
        | (intro h; cases h; done)
        | (simp; done)
     ·intro g
      have hge:¬ i < L:=by subst hE; simpa [std] using g
      refine Exists.elim (hqd i M out hj hge) ?_
      intro l' hf
      have hinv:=hf.1
      have hmu:=hf.2
      clear hf hqd hq hj g hge
      cbv
      refine ⟨some (M,out,l'),[0,2],hinv,hmu,?_⟩
      cbv
      subst hE
      and_intros
      all_goals first
       | exact True.intro
       | rfl
       | (intro h; cases h; done)
       | (simp; done)
   ·intro g
    have c4:¬ 0<=z:=by subst hE; simpa [std] using g
    have hx:=hend L zs l z hI c3 hz c4
    have hLl:=hLl L zs l hI
    have hzl:=(hI).eq
    have hle:=(hI).le
    clear g hcp hcd hrnd hstop hend
    cbv
    refine forkNo (by subst hE; exact decide_eq_false (Int.not_lt.2 c3)) ?_
    cbv
    refine Exists.elim hx ?_
    intro xb h
    refine Exists.elim h ?_
    intro ar h
    refine Exists.elim h ?_
    intro m h
    refine Exists.elim h ?_
    intro f1 h
    refine Exists.elim h ?_
    intro f2 h
    refine Exists.elim h ?_
    intro rv hf
    have kx:=hf.kx
    have x13:=hf.x13
    have re0:=hf.re0
    have ka:=hf.ka
    have ks:=hf.ks
    have kt:=hf.kt
    have htr:=hf.tr
    have hrl:=hf.rl
    have her:=hf.er
    have k1:=hf.k1
    have k2:=hf.k2
    have he1:=hf.e1
    have he2:=hf.e2
    have hneg:=hf.neg
    have hpos:=hf.pos
    clear hf h hx
    refine CallTo.w hP hE kx ⟨(by subst hE; exact Sm.of (c:=cP) htk),trivial⟩ ?_
    cbv
    refine fork.mk ?_ ?_
    ·intro g
     have hr:=x13 (by simpa using g)
     exact absurd hr (by rw [hgood]; decide)
    intro g
    clear x13 re0 g
    cbv
    refine CallTo.w hP hE ka ⟨(by subst hE; exact Sm.of (c:=cP) htk),trivial⟩ ?_
    cbv
    refine CallTo.w hP hE ks ⟨rfl,trivial⟩ ?_
    cbv
    refine fork.mk ?_ ?_
    ·intro g
     have c5:m < 0:=by subst hE; simpa [std] using g
     have hrs:=hneg c5
     clear hneg hpos g
     cbv
     refine CallTo.con hP hE kt ⟨(by subst hE; exact Sm.of (c:=cP) htk),trivial⟩ ?_
     cbv
     refine CallTo.w hP hE k2 ⟨(by subst hE; exact Sm.of (c:=cP) htr),trivial⟩ ?_
     have hOl:(std.len Pt rv)=(l.reverse.length:Int):=by rw [hrl,List.length_reverse]
     have hO4:l.reverse.length<=4096:=by rw [List.length_reverse]; omega
     have hB0:BlI l.reverse i0 i0 e0:=⟨by omega,by omega,by rw [hi0,he0]; rfl,by rw [he0,hi0]; rfl⟩
     have hbl:∀ i M out,BlI l.reverse i M out->i < (std.len Pt rv)->∃ a r j M' p out',BlF l.reverse rv (std.len Pt rv) f2 i M out a r j M' p out':=fun i M out h h'=>blF_ex her hOl hO4 he2 h h'
     have hbd:∀ i M out,BlI l.reverse i M out->¬ i < (std.len Pt rv)->std.tk Pt out M=rs0:=fun i M out h h'=>by
      rw [hrs]; exact bl_done hOl h h'
     cbv
     refine LoopTo.nil 7 33 cP cP_ok rfl ?_
     refine LoopTo.by (ι:=Int × Int × List Pt) (fun x=>[(7,.s 3 x.2.1),(9,.v (.int .i64 x.1))]) (fun x=>[(3,.row true 33 cP x.2.2)]) (fun x=>BlI l.reverse x.1 x.2.1 x.2.2) (fun x=>((std.len Pt rv) - x.1).toNat) (i0,i0,e0) [] hB0 ?_ ?_
     ·cbv
      subst hE
      and_intros
      all_goals first
       | exact True.intro
       | rfl
       | exact vi hi0.symm
       | exact vj hi0.symm
       | exact congrArg (fun x=>AV.s 3 x) hi0.symm
       | exact Sm.of he0.symm
       | (intro h; cases h; done)
       | (simp; done)
     ·rintro ⟨i,M,out⟩ hj
      have hj:BlI l.reverse i M out:=hj
      clear hB0
      cbv
      refine fork.mk ?_ ?_
      ·intro g
       have hlt:i < (std.len Pt rv):=by subst hE; simpa [std] using g
       refine Exists.elim (hbl i M out hj hlt) ?_
       intro a h
       refine Exists.elim h ?_
       intro r h
       refine Exists.elim h ?_
       intro j h
       refine Exists.elim h ?_
       intro M' h
       refine Exists.elim h ?_
       intro p h
       refine Exists.elim h ?_
       intro out' hf
       have hnz:std.nz .rem (std.len Pt rv):=hf.nz
       have in1:0<=std.ib .rem .i64 (std.ib .add .i64 f2 i) (std.len Pt rv)/\std.ib .rem .i64 (std.ib .add .i64 f2 i) (std.len Pt rv) < (std.len Pt rv):=by rw [hf.e1,hf.e2]; exact hf.in1
       have hg1:std.get Pt rv (std.ib .rem .i64 (std.ib .add .i64 f2 i) (std.len Pt rv)) zQ=p:=by rw [hf.e1,hf.e2]; exact hf.g1
       have happ:std.app Pt (std.tk Pt out M) [std.get Pt rv (std.ib .rem .i64 (std.ib .add .i64 f2 i) (std.len Pt rv)) zQ]=out':=by rw [hg1]; exact hf.app
       have hfit:=hf.fit
       have hlen9:=hf.len
       have hadd:=hf.add
       have hinv:=hf.inv
       have hmu:=hf.mu
       clear hf h hj g hlt hbl hbd
       cbv
       refine Need.mk (by subst hE; exact hnz) ?_
       cbv
       refine Need.mk (by subst hE; exact in1) ?_
       cbv
       refine Need.mk (by subst hE; exact hfit) ?_
       cbv
       refine ⟨(j,M',out'),[0,1,2,5],hinv,hmu,?_⟩
       cbv
       subst hE
       and_intros
       all_goals first
        | exact True.intro
        | rfl
        | exact vi hadd
        | exact vj hadd
        | exact congrArg (fun x=>AV.s 5 x) hlen9
        | exact Sm.of happ
        | (intro h; cases h; done)
        | (simp; done)
      ·intro g
       have hge:¬ i < (std.len Pt rv):=by subst hE; simpa [std] using g
       have hM:=hbd i M out hj hge
       cbv
       subst hE
       exact ⟨Sm.of (c:=cP) hM,trivial⟩
    ·intro g
     have c5:¬ m < 0:=by subst hE; simpa [std] using g
     have hrs:=hpos c5
     clear hneg hpos g
     cbv
     refine CallTo.w hP hE k1 ⟨(by subst hE; exact Sm.of (c:=cP) htk),trivial⟩ ?_
     have hOl:L=(l.length:Int):=hLl
     have hO4:l.length<=4096:=by omega
     have hB0:BlI l i0 i0 e0:=⟨by omega,by omega,by rw [hi0,he0]; rfl,by rw [he0,hi0]; rfl⟩
     have hbl:∀ i M out,BlI l i M out->i < L->∃ a r j M' p out',BlF l zs L f1 i M out a r j M' p out':=fun i M out h h'=>blF_ex hzl hOl hO4 he1 h h'
     have hbd:∀ i M out,BlI l i M out->¬ i < L->std.tk Pt out M=rs0:=fun i M out h h'=>by
      rw [hrs]; exact bl_done hOl h h'
     cbv
     refine LoopTo.nil 7 33 cP cP_ok rfl ?_
     refine LoopTo.by (ι:=Int × Int × List Pt) (fun x=>[(7,.s 2 x.2.1),(9,.v (.int .i64 x.1))]) (fun x=>[(2,.row true 33 cP x.2.2)]) (fun x=>BlI l x.1 x.2.1 x.2.2) (fun x=>(L - x.1).toNat) (i0,i0,e0) [] hB0 ?_ ?_
     ·cbv
      subst hE
      and_intros
      all_goals first
       | exact True.intro
       | rfl
       | exact vi hi0.symm
       | exact vj hi0.symm
       | exact congrArg (fun x=>AV.s 2 x) hi0.symm
       | exact Sm.of he0.symm
       | (intro h; cases h; done)
       | (simp; done)
     ·rintro ⟨i,M,out⟩ hj
      have hj:BlI l i M out:=hj
      clear hB0
      cbv
      refine fork.mk ?_ ?_
      ·intro g
       have hlt:i < L:=by subst hE; simpa [std] using g
       refine Exists.elim (hbl i M out hj hlt) ?_
       intro a h
       refine Exists.elim h ?_
       intro r h
       refine Exists.elim h ?_
       intro j h
       refine Exists.elim h ?_
       intro M' h
       refine Exists.elim h ?_
       intro p h
       refine Exists.elim h ?_
       intro out' hf
       have hnz:std.nz .rem L:=hf.nz
       have in1:0<=std.ib .rem .i64 (std.ib .add .i64 f1 i) L/\std.ib .rem .i64 (std.ib .add .i64 f1 i) L < L:=by rw [hf.e1,hf.e2]; exact hf.in1
       have hg1:std.get Pt zs (std.ib .rem .i64 (std.ib .add .i64 f1 i) L) zQ=p:=by rw [hf.e1,hf.e2]; exact hf.g1
       have happ:std.app Pt (std.tk Pt out M) [std.get Pt zs (std.ib .rem .i64 (std.ib .add .i64 f1 i) L) zQ]=out':=by rw [hg1]; exact hf.app
       have hfit:=hf.fit
       have hlen9:=hf.len
       have hadd:=hf.add
       have hinv:=hf.inv
       have hmu:=hf.mu
       clear hf h hj g hlt hbl hbd
       cbv
       refine Need.mk (by subst hE; exact hnz) ?_
       cbv
       refine Need.mk (by subst hE; exact in1) ?_
       cbv
       refine Need.mk (by subst hE; exact hfit) ?_
       cbv
       refine ⟨(j,M',out'),[0,1,4],hinv,hmu,?_⟩
       cbv
       subst hE
       and_intros
       all_goals first
        | exact True.intro
        | rfl
        | exact vi hadd
        | exact vj hadd
        | exact congrArg (fun x=>AV.s 4 x) hlen9
        | exact Sm.of happ
        | (intro h; cases h; done)
        | (simp; done)
      ·intro g
       have hge:¬ i < L:=by subst hE; simpa [std] using g
       have hM:=hbd i M out hj hge
       cbv
       subst hE
       exact ⟨Sm.of (c:=cP) hM,trivial⟩
  ·intro g
   have c3:¬ 3<=L:=by subst hE; simpa [std] using g
   have hr:=hstop L zs l hI c3
   exact absurd hr (by rw [hgood]; decide)
theorem canon_nil {ps:List Pt} (h0:ps=[]):Con Tryz.prog 17 [.ro cP ps] (.v (.tuple #[.slice none 0 0,.int .i64 12])):=by
 have kcan:=canonL_q (k:=1) (ps:=ps) (by rw [h0]; intro p h; cases h) (by omega) (by rw [h0]; exact Nat.zero_le _)
 have hc:canL ps=true:=by rw [h0]; rfl
 rw [hc] at kcan
 obtain ⟨n,hn⟩:∃ n:Int,n=ps.length:=⟨_,rfl⟩
 have hln:std.len Pt ps=n:=by rw [s_len,hn]
 have hn0:n=0:=by rw [hn,h0]; rfl
 have tk9:std.tk Pt ps (std.len Pt ps)=ps:=by rw [s_tk,s_len]; exact List.take_of_length_le (by omega)
 have fit9:std.fits (std.ad 0 (std.len Pt ps)) 80:=by
  rw [s_fits,hln]
  show 0<=0+n/\0+n<=_/\(0+n)*80<=_
  omega
 have h64:¬ 64 < std.len Pt ps:=by rw [hln]; omega
 have h3:std.ad 0 (std.len Pt ps)=0:=by rw [hln,hn0]; rfl
 obtain ⟨L0,hL0⟩:∃ L0:Int,L0=0:=⟨_,rfl⟩
 have hg0:std.ic .geq 0 3=false:=rfl
 have hl0:std.ic .lss 0 3=true:=rfl
 have hg1:std.ic .geq L0 3=false:=by rw [hL0]; rfl
 have hl1:std.ic .lss L0 3=true:=by rw [hL0]; rfl
 have h39:std.ad 0 (std.len Pt ps)=L0:=by rw [h3,hL0]
 have h39':(ps.length:Int)=L0:=by rw [<-hn,hn0,hL0]
 clear h0
 refine Con.of ttFOk mixed Tryz.func17 { ord:=[(13,[0,1,2,3,4,5,6,7,8,9])] } canon_inl 5 (by kernel_rfl) (fun P' E hP hE=>?_)
 cbv
 refine forkNo (by subst hE; exact decide_eq_false h64) ?_
 cbv
 refine CallTo.w hP hE kcan ⟨(by subst hE; exact Sm.of (c:=cP) tk9),trivial⟩ ?_
 cbv
 refine forkNo (by subst hE; rfl) ?_
 cbv
 refine NilTo.mk ?_
 intro v hv
 refine fork.mk ?_ ?_
 ·intro g
  cbv
  refine ScopeTo.by (ι:=Unit) (fun x=>[(0,.c (.slice none 0 0))]) (fun x=>[]) (fun x=>True) (fun x=>0) () [] trivial ?_ ?_
  ·cbv<;>simp
  intro _ _
  cbv
  refine LoopTo.by (ι:=Unit) (fun x=>[(0,.c (.slice none 0 0)),(6,.any)]) (fun x=>[]) (fun x=>True) (fun x=>0) () [] trivial ?_ ?_
  ·cbv<;>simp
  intro _ _
  cbv
 intro g
 cbv
 refine ⟨ps,(by subst hE; exact Sm.of (c:=cP) tk9.symm),?_⟩
 cbv
 refine Need.mk (by subst hE; exact fit9) ?_
 cbv
 refine ScopeTo.by (ι:=Unit) (fun x=>[(0,.s 2 L0)]) (fun x=>[]) (fun x=>True) (fun x=>0) () [] trivial ?_ ?_
 ·cbv
  subst hE
  simp
  exact h39'
 intro _ _
 cbv
 refine LoopTo.by (ι:=Unit) (fun x=>[(0,.s 2 L0),(6,.any)]) (fun x=>[]) (fun x=>True) (fun x=>0) () [] trivial ?_ ?_
 ·cbv
  simp
 intro _ _
 cbv
 refine forkNo (by subst hE; exact hg1) ?_
 cbv
 refine forkYes (by subst hE; exact hl1) ?_
 cbv
end Go.Proofs.YtkipmmiiackdaaaGreat.Sx
