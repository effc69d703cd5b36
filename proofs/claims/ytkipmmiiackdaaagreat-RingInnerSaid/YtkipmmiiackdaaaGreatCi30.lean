/- Part 30 of what the statement needs: an executor of Go texts, arithmetic, and contracts of the functions that are called. -/
import Derived.Test.YtkipmmiiackdaaaGreatCi26
import Derived.Test.YtkipmmiiackdaaaGreatCi27
import Derived.Test.YtkipmmiiackdaaaGreatCi28
import Derived.Test.YtkipmmiiackdaaaGreatCi29
set_option linter.unusedSimpArgs false
set_option linter.unusedVariables false
set_option maxHeartbeats 16000000
set_option maxRecDepth 100000
namespace Go.Proofs.YtkipmmiiackdaaaGreat.Sx
open Env (std)
theorem map_q (l:List Pq):(l.map crP).map Pt.q=l:=by
 rw [List.map_map]
 conv=>rhs; rw [<-List.map_id l]
 refine List.map_congr_left fun x _=>?_
 show (⟨(cr x.x).q,(cr x.y).q⟩:Pq)=x
 rw [cr_q,cr_q]
theorem canon_inl:InlOk Tryz.prog [(94,Tryz.f94,{ ord:=[(6,[0,1,2,3,4,5,6,7,8,9,10,11,12,13,14,15,16,17,18,19,20,21])] }),(95,Tryz.f95,{}),(48,Tryz.f48,{}),(195,Tryz.f195,{ ord:=[(5,[0,1,2,3,4,5,6,7])] }),(98,Tryz.f98,{ ord:=[(3,[0,1,2,3,4,5,6,7,8,9,10,11,12,13,14,15])] }),(29,Tryz.f29,{ un:=[(3,3),(11,3)] }),(115,Tryz.f115,{})]:=
 InlOk.cons Tryz.func94 (by kernel_rfl) (InlOk.cons Tryz.func95 (by kernel_rfl) (InlOk.cons Tryz.func48 (by kernel_rfl) (InlOk.cons Tryz.func195 (by kernel_rfl) (InlOk.cons Tryz.func98 (by kernel_rfl) (InlOk.cons Tryz.func29 (by kernel_rfl) (InlOk.cons Tryz.func115 (by kernel_rfl) .nil))))))
/-- What comes behind simplify. -/
structure EndF (l:List Pq) (re:Int) (rs0:List Pt) (xb:Bool) (ar:R) (m:Int):Prop where
 kx:Con Tryz.prog 96 [.ro cP (l.map crP)] (.v (.bool xb))
 x13:xb=true->13=re
 re0:¬ xb=true->0=re
 ka:Con Tryz.prog 32 [.ro cP (l.map crP)] (.v ar.v)
 ks:Con Tryz.prog 97 [.v ar.v] (.v (.int .i64 m))
 neg:m < 0->rs0=(rotQ l.reverse).map crP
 pos:¬ m < 0->rs0=(rotQ l).map crP
theorem canE_stop {c:Bool} {A:List Pq} (hc:c=true) (h64:¬ 64 < A.length) (h:(simpQ A).length < 3):12=canE c A:=by
 rw [canE,if_neg h64,if_neg (by rw [hc]; decide),if_pos h]
theorem endF_ex {k:Nat} {c:Bool} {A l:List Pq} (hp:∀ p ∈ A,IsP k (crP p) p) (hc:c=true) (h64:¬ 64 < A.length) (hk:40960*k+40960<=134217728) (hk1:1<=k) (hl:l=simpQ A) (h3:¬ l.length < 3):∃ xb ar m,EndF l (canE c A) ((canQ A).map crP) xb ar m:=by
 have hlen:l.length<=64:=by have:=simpQ_len A; rw [hl]; omega
 have hb:∀ p ∈ l,BdP k p:=fun p h=>(hp p (by rw [hl] at h; exact simpQ_sub h)).b
 have hi:∀ p ∈ l.map crP,IsP k p p.q:=fun p h=>by
  obtain ⟨x,hx,rfl⟩:=List.mem_map.1 h
  have e:(crP x).q=x:=by show (⟨(cr x.x).q,(cr x.y).q⟩:Pq)=x; rw [cr_q,cr_q]
  rw [e]; exact (hb x hx).is
 have kx:=crossing_q hi (by rw [List.length_map]; omega) (show 40*k+40<=134217728 by omega)
 have ka:=area_q hi (by rw [List.length_map]; omega) hk hk1
 rw [map_q] at kx ka
 have ks:=sign_q (area_bd (l:=l) (by omega) hb hk1).is (by omega)
 have hE:canE c A=if crossB (simpQ A)=true then 13 else 0:=by
  rw [canE,if_neg h64,if_neg (by rw [hc]; decide),if_neg (by rw [<-hl]; exact h3)]
 refine ⟨_,_,_,kx,fun h=>?_,fun h=>?_,ka,ks,fun h=>?_,fun h=>?_⟩
 ·rw [hE,if_pos (by rw [<-hl]; exact h)]
 ·rw [hE,if_neg (by rw [<-hl]; exact h)]
 ·rw [canQ,turnQ,<-hl,if_pos h]
 ·rw [canQ,turnQ,<-hl,if_neg h]
/-- The ring begins with its least vertex. -/
structure TailF (zs:List Pt) (L fi:Int) (ls d1 d2 rs:List Pt):Prop where
 kf:Con Tryz.prog 99 [.ro cP ls] (.v (.int .i64 fi))
 tk:std.tk Pt zs L=ls
 r1:std.rng fi L L
 r2:std.rng 0 fi L
 w1:d1=std.wnd Pt zs fi (std.sb L fi)
 w2:d2=std.tk Pt zs fi
 c:CatF (std.sb L fi) fi
 r:CatR (std.sb L fi) fi d1 d2 rs
theorem tailF_ex {k:Nat} {O:List Pq} {zs:List Pt} {L:Int} (hp:∀ p ∈ O,BdP k p) (hL:L=O.length) (h1:1<=O.length) (hl:O.length<=4096) (hk:2*k<=134217728) (hz:zs.take O.length=O.map crP):∃ fi d1 d2,TailF zs L fi (O.map crP) d1 d2 ((rotQ O).map crP):=by
 have hi:∀ p ∈ O.map crP,IsP k p p.q:=fun p h=>by
  obtain ⟨x,hx,rfl⟩:=List.mem_map.1 h
  have e:(crP x).q=x:=by show (⟨(cr x.x).q,(cr x.y).q⟩:Pq)=x; rw [cr_q,cr_q]
  rw [e]; exact (hp x hx).is
 have kf:=first_q hi (by rw [List.length_map]; exact hl) hk
 rw [map_q] at kf
 have hf:=firstI_lt h1
 have hsb:std.sb L ((firstI O:Nat):Int)=L - ((firstI O:Nat):Int):=rfl
 refine ⟨((firstI O:Nat):Int),(O.drop (firstI O)).map crP,(O.take (firstI O)).map crP,kf,?_,⟨by omega,by omega,by omega⟩,⟨by omega,by omega,by omega⟩,?_,?_,CatF.of (by rw [hsb]; omega) (by omega) (by rw [hsb]; omega) (by rw [hsb]; omega),?_⟩
 ·rw [s_tk,hL,Int.toNat_natCast]; exact hz
 ·rw [hsb,List.map_drop,<-hz]
  show _=(zs.drop (firstI O)).take (L - ((firstI O:Nat):Int)).toNat
  rw [List.drop_take]
  congr 1
  omega
 ·rw [s_tk,Int.toNat_natCast,List.map_take,<-hz,List.take_take,Nat.min_eq_left (by omega)]
 ·rw [rotQ,List.map_append]
  exact CatR.of (by simp only [List.length_map,List.length_drop,List.length_take]; omega)
theorem canon_bad {k:Nat} {ps:List Pt} (hp:∀ p ∈ ps,IsP k p p.q) (h1:1<=ps.length) (hl:ps.length<=140737488355328) (hk:40960*k+40960<=134217728) (hk1:1<=k) (hbad:canE (canL ps) (ps.map Pt.q) ≠ 0):Con Tryz.prog 17 [.ro cP ps] (.v (.tuple #[.slice none 0 0,.int .i64 (canE (canL ps) (ps.map Pt.q))])):=by
 have kcan:=canonL_q hp (show k<=134217728 by omega) hl
 obtain ⟨n,hn⟩:∃ n:Int,n=ps.length:=⟨_,rfl⟩
 obtain ⟨N,hN⟩:∃ n:Nat,n=ps.length:=⟨_,rfl⟩
 obtain ⟨A,hA⟩:∃ A,A=ps.map Pt.q:=⟨_,rfl⟩
 obtain ⟨re,hre⟩:∃ e,e=canE (canL ps) A:=⟨_,rfl⟩
 rw [<-hA] at hbad
 rw [<-hA,<-hre]
 rw [<-hre] at hbad
 obtain ⟨c,hc⟩:∃ c,c=canL ps:=⟨_,rfl⟩
 rw [<-hc] at kcan hre
 have hln:std.len Pt ps=n:=by rw [s_len,hn]
 have tk9:std.tk Pt ps (std.len Pt ps)=ps:=by rw [s_tk,s_len]; exact List.take_of_length_le (by omega)
 have hAl:A.length=N:=by rw [hA,List.length_map,hN]
 have hL0:std.ad 0 (std.len Pt ps)=n:=by rw [hln]; show 0+n=n; omega
 have hn0:¬ n=0:=by omega
 have w1:64 < n->4=re:=fun h=>by rw [hre,canE,if_pos (by omega)]
 have w2:¬ 64 < n->¬ c=true->1=re:=fun h h'=>by rw [hre,canE,if_neg (by omega),if_pos (by simpa using h')]
 have hcan:c=true->ps=A.map crP:=fun h=>by rw [hA]; exact canL_eq (by rw [<-hc]; exact h)
 have fit9:¬ 64 < n->std.fits (std.ad 0 (std.len Pt ps)) 80:=fun h=>by
  rw [s_fits,hln]
  show 0<=0+n/\0+n<=_/\(0+n)*80<=_
  omega
 have hpA:c=true->∀ p ∈ A,IsP k (crP p) p:=fun h p hq=>by
  have h9:=hcan h
  have hm:crP p ∈ ps:=by rw [h9]; exact List.mem_map_of_mem hq
  have:=hp _ hm
  rwa [show (crP p).q=p from by show (⟨(cr p.x).q,(cr p.y).q⟩:Pq)=p; rw [cr_q,cr_q]] at this
 have hp0:c=true->SimI A N n ps A:=fun h=>⟨by omega,hN.symm,by omega,by rw [hAl,hN,List.take_length]; exact hcan h,rfl,fun p h=>h⟩
 have w9:∀ {i i':Int},i=i'->Value.tuple #[.slice none 0 0,.int .i64 i]=Value.tuple #[.slice none 0 0,.int .i64 i']:=fun h=>by rw [h]
 have hrnd:¬ 64 < n->c=true->∀ L zs l i,SimI A N L zs l->SimL l L i->i < L->∃ a b c j p q r m,SimF A N L zs l i a b c j p q r m:=fun h h' L zs l i hi hi2 hlt=>simF_ex (hpA h') (by omega) (by omega) hi hi2 hlt
 obtain ⟨i0,hi0⟩:∃ i:Int,i=0:=⟨_,rfl⟩
 have hL00:∀ L zs l,SimI A N L zs l->SimL l L i0:=fun L zs l h=>⟨by omega,by have:=h.len; omega,fun k hk=>by rw [hi0] at hk; exact absurd hk (Nat.not_lt_zero _)⟩
 obtain ⟨rs0,hrs0⟩:∃ r,r=(canQ A).map crP:=⟨_,rfl⟩
 skip
 have hstop:¬ 64 < n->c=true->∀ L zs l,SimI A N L zs l->¬ 3<=L->12=re:=fun h h' L zs l hi h3=>by
  have h9:=hi.si
  have h8:=hi.len
  rw [simpQ_stop (by omega)] at h9
  rw [hre]
  exact canE_stop h' (by omega) (by rw [<-h9]; omega)
 have hend:¬ 64 < n->c=true->∀ L zs l i,SimI A N L zs l->3<=L->SimL l L i->¬ i < L->std.tk Pt zs L=l.map crP/\∃ xb ar m,EndF l re rs0 xb ar m:=fun h h' L zs l i hi h3 hj hge=>by
  have h8:=hi.len
  have hno:needI l=none:=need_no (fun k hk=>hj.no k (by have:=hj.h1; omega))
  have h9:=hi.si
  rw [simpQ_none hno] at h9
  refine ⟨by rw [s_tk,h8,Int.toNat_natCast]; exact hi.eq,?_⟩
  rw [hre,hrs0]
  exact endF_ex (hpA h') h' (by omega) hk hk1 h9 (by omega)
 skip
 clear hre hrs0 hk hk1
 refine Con.of ttFOk mixed Tryz.func17 { ord:=[(13,[0,1,2,3,4,5,6,7,8,9])] } canon_inl 5 (by kernel_rfl) (fun P' E hP hE=>?_)
 cbv
 refine fork.mk ?_ ?_
 ·intro g
  have c1:64 < n:=by subst hE; rw [<-hln]; simpa [std] using g
  have hr:=w1 c1
  cbv
  exact w9 hr
 intro g
 have c1:¬ 64 < n:=by subst hE; rw [<-hln]; simpa [std] using g
 clear g
 cbv
 refine CallTo.w hP hE kcan ⟨(by subst hE; exact Sm.of (c:=cP) tk9),trivial⟩ ?_
 cbv
 refine fork.mk ?_ ?_
 ·intro g
  have c2:¬ c=true:=by subst hE; simpa [std] using g
  have hr:=w2 c1 c2
  cbv
  exact w9 hr
 intro g
 have c2:c=true:=by subst hE; simpa [std] using g
 have hrnd:=hrnd c1 c2
 have hstop:=hstop c1 c2
 have hend:=hend c1 c2
 have fit9:=fit9 c1
 have hp0:=hp0 c2
 clear g w1 w2
 cbv
 refine NilTo.mk ?_
 intro v hv
 refine fork.mk ?_ ?_
 ·intro g
  have h9:std.len Pt ps=0:=by subst hE; exact hv g
  exact absurd h9 (by rw [hln]; exact hn0)
 intro g
 clear g hv
 cbv
 refine ⟨ps,(by subst hE; exact Sm.of (c:=cP) tk9.symm),?_⟩
 cbv
 refine Need.mk (by subst hE; exact fit9) ?_
 cbv
 refine ScopeTo.by (ι:=Int × List Pt × List Pq) (fun x=>[(0,.s 2 x.1)]) (fun x=>[(2,.row true 33 cP x.2.1)]) (fun x=>SimI A N x.1 x.2.1 x.2.2) (fun x=>x.2.2.length) (n,ps,A) [] hp0 ?_ ?_
 ·cbv
  subst hE
  and_intros
  all_goals first
   | exact True.intro
   | rfl
   | exact congrArg (fun x=>AV.s 2 x) hL0
   | exact Sm.of (c:=cP) (rfl:std.app Pt (std.tk Pt [] 0) ps=ps)
   | (simp; done)
 rintro ⟨L,zs,l⟩ hi
 have hi:SimI A N L zs l:=hi
 have hL0:=hL00 L zs l hi
 clear hp0 hL00
 cbv
 refine LoopTo.by (ι:=Int) (fun x=>[(0,.s 2 L),(6,.v (.int .i64 x))]) (fun x=>[]) (fun x=>SimL l L x) (fun x=>(L - x).toNat) i0 [] hL0 ?_ ?_
 ·cbv
  subst hE
  and_intros
  all_goals first
   | exact True.intro
   | rfl
   | exact vi hi0.symm
   | exact vj hi0.symm
   | (simp; done)
 intro i hj
 have hj:SimL l L i:=hj
 clear hL0
 cbv
 refine fork.mk ?_ ?_
 ·intro g
  have c3:3<=L:=by subst hE; simpa [std] using g
  clear g
  cbv
  refine fork.mk ?_ ?_
  ·intro g
   have hlt:i < L:=by subst hE; simpa [std] using g
   refine Exists.elim (hrnd L zs l i hi hj hlt) ?_
   intro a h
   refine Exists.elim h ?_
   intro b h
   refine Exists.elim h ?_
   intro c h
   refine Exists.elim h ?_
   intro j h
   refine Exists.elim h ?_
   intro p h
   refine Exists.elim h ?_
   intro q h
   refine Exists.elim h ?_
   intro r h
   refine Exists.elim h ?_
   intro m hf
   have e1:=hf.e1
   have e2:=hf.e2
   have e3:=hf.e3
   have e4:=hf.e4
   have in1:=hf.in1
   have in0:0<=std.ib .rem .i64 (std.ib .sub .i64 (std.ib .add .i64 i L) 1) L/\std.ib .rem .i64 (std.ib .sub .i64 (std.ib .add .i64 i L) 1) L < L:=by rw [e1,e2]; exact hf.in0
   have in2:0<=std.ib .rem .i64 (std.ib .add .i64 i 1) L/\std.ib .rem .i64 (std.ib .add .i64 i 1) L < L:=by rw [e3,e4]; exact hf.in2
   have hnz:std.nz .rem L:=hf.nz
   have hg0:std.get Pt zs (std.ib .rem .i64 (std.ib .sub .i64 (std.ib .add .i64 i L) 1) L) zQ=p:=by rw [e1,e2]; exact hf.g0
   have hg1:=hf.g1
   have hg2:std.get Pt zs (std.ib .rem .i64 (std.ib .add .i64 i 1) L) zQ=r:=by rw [e3,e4]; exact hf.g2
   have ko:=hf.co
   have hrem:=hf.rem
   have hno:=hf.no
   have hmu:=hf.mu
   clear hf h g hlt
   cbv
   refine Need.mk (by subst hE; exact hnz) ?_
   cbv
   refine Need.mk (by subst hE; exact in0) ?_
   cbv
   refine Need.mk (by subst hE; exact in1) ?_
   cbv
   refine Need.mk (by subst hE; exact hnz) ?_
   cbv
   refine Need.mk (by subst hE; exact in2) ?_
   cbv
   refine fork.mk ?_ ?_
   ·intro g
    have c4:q=r:=by
     subst hE
     have g:eqCells (std.get Pt zs i zQ).c (std.get Pt zs (std.ib .rem .i64 (std.ib .add .i64 i 1) L) zQ).c=true:=g
     rw [hg1,hg2] at g
     exact (eqc_P q r).1 g
    have hd:=hrem (Or.inl c4) c3
    clear g hno hrem
    cbv
    refine Exists.elim hd ?_
    intro L1 h
    refine Exists.elim h ?_
    intro R h
    refine Exists.elim h ?_
    intro l1 h
    have n1:=h.1.n1
    have f1:=h.1.f1
    have n2:=h.1.n2
    have n3:=h.1.n3
    have n4:=h.1.n4
    have n5:=h.1.n5
    have n6:=h.1.n6
    have hln1:=h.1.ln
    have hrow:=h.1.row
    have hinv:=h.2.1
    have hmu1:=h.2.2
    clear h hd
    refine Need.mk (by subst hE; exact n1) ?_
    cbv
    refine forkNo (by subst hE; exact f1) ?_
    cbv
    refine Need.mk (by subst hE; exact n2) ?_
    cbv
    refine Need.mk (by subst hE; exact n3) ?_
    cbv
    refine Need.mk (by subst hE; exact n4) ?_
    cbv
    refine Need.mk (by subst hE; exact n5) ?_
    cbv
    refine Need.mk (by subst hE; exact n6) ?_
    cbv
    refine ⟨(L1,R,l1),[0,1,2],hinv,hmu1,?_⟩
    cbv
    subst hE
    and_intros
    all_goals first
     | exact True.intro
     | rfl
     | exact congrArg (fun x=>AV.s 2 x) hln1
     | exact Sm.of (c:=cP) hrow
     | (intro h; cases h; done)
     | (simp; done)
   ·intro g
    have c4:¬ q=r:=by
     subst hE
     have g:eqCells (std.get Pt zs i zQ).c (std.get Pt zs (std.ib .rem .i64 (std.ib .add .i64 i 1) L) zQ).c=false:=g
     rw [hg1,hg2] at g
     exact fun e=>by rw [(eqc_P q r).2 e] at g; exact absurd g (by decide)
    clear g
    cbv
    refine CallTo.w hP hE ko ⟨(by subst hE; exact congrArg (fun p:Pt=>p.v) hg0),(by subst hE; exact congrArg (fun p:Pt=>p.v) hg1),(by subst hE; exact congrArg (fun p:Pt=>p.v) hg2),trivial⟩ ?_
    cbv
    refine fork.mk ?_ ?_
    ·intro g
     have c5:m=0:=by subst hE; simpa [std] using g
     have hd:=hrem (Or.inr c5) c3
     clear g hno hrem
     cbv
     refine Exists.elim hd ?_
     intro L1 h
     refine Exists.elim h ?_
     intro R h
     refine Exists.elim h ?_
     intro l1 h
     have n1:=h.1.n1
     have f1:=h.1.f1
     have n2:=h.1.n2
     have n3:=h.1.n3
     have n4:=h.1.n4
     have n5:=h.1.n5
     have n6:=h.1.n6
     have hln1:=h.1.ln
     have hrow:=h.1.row
     have hinv:=h.2.1
     have hmu1:=h.2.2
     clear h hd
     refine Need.mk (by subst hE; exact n1) ?_
     cbv
     refine forkNo (by subst hE; exact f1) ?_
     cbv
     refine Need.mk (by subst hE; exact n2) ?_
     cbv
     refine Need.mk (by subst hE; exact n3) ?_
     cbv
     refine Need.mk (by subst hE; exact n4) ?_
     cbv
     refine Need.mk (by subst hE; exact n5) ?_
     cbv
     refine Need.mk (by subst hE; exact n6) ?_
     cbv
     refine ⟨(L1,R,l1),[0,1,2],hinv,hmu1,?_⟩
     cbv
     subst hE
     and_intros
     all_goals first
      | exact True.intro
      | rfl
      | exact congrArg (fun x=>AV.s 2 x) hln1
      | exact Sm.of (c:=cP) hrow
      | (intro h; cases h; done)
      | (simp; done)
    ·intro g
     have c5:¬ m=0:=by subst hE; simpa [std] using g
     have hst:=hno c4 c5
     clear hrem hno g
     cbv
     refine ⟨j,[],hst,hmu,?_⟩
     cbv
     subst hE
     and_intros
     all_goals first
      | exact True.intro
      | rfl
      | exact vi e3
      | exact vj e3
      | (intro h; cases h; done)
      | (simp; done)
  ·intro g
   have hge:¬ i < L:=by subst hE; simpa [std] using g
   have htk:=(hend L zs l i hi c3 hj hge).1
   have hx:=(hend L zs l i hi c3 hj hge).2
   clear hend hstop hrnd hge g hj
   cbv
   refine forkNo (by subst hE; exact decide_eq_false (by omega)) ?_
   cbv
   refine Exists.elim hx ?_
   intro xb h
   refine Exists.elim h ?_
   intro ar h
   refine Exists.elim h ?_
   intro m hf
   have kx:=hf.kx
   have x13:=hf.x13
   have re0:=hf.re0
   have ka:=hf.ka
   have ks:=hf.ks
   have hneg:=hf.neg
   have hpos:=hf.pos
   clear hf h hx
   refine CallTo.w hP hE kx ⟨(by subst hE; exact Sm.of (c:=cP) htk),trivial⟩ ?_
   cbv
   refine fork.mk ?_ ?_
   ·intro g
    have hr:=x13 (by simpa using g)
    cbv
    exact w9 hr
   intro g
   have hr:=re0 (by simpa using g)
   exact absurd hr.symm hbad
 ·intro g
  have c3:¬ 3<=L:=by subst hE; simpa [std] using g
  have hr:=hstop L zs l hi c3
  cbv
  refine forkYes (by subst hE; exact decide_eq_true (by omega)) ?_
  cbv
  exact w9 hr
theorem canon_ok {k:Nat} {ps:List Pt} (hp:∀ p ∈ ps,IsP k p p.q) (h1:1<=ps.length) (hl:ps.length<=140737488355328) (hk:40960*k+40960<=134217728) (hk1:1<=k) (hgood:canE (canL ps) (ps.map Pt.q)=0):Con Tryz.prog 17 [.ro cP ps] (.tup [.own 33 cP ((canQ (ps.map Pt.q)).map crP),.v (.int .i64 0)]):=by
 have kcan:=canonL_q hp (show k<=134217728 by omega) hl
 obtain ⟨n,hn⟩:∃ n:Int,n=ps.length:=⟨_,rfl⟩
 obtain ⟨N,hN⟩:∃ n:Nat,n=ps.length:=⟨_,rfl⟩
 obtain ⟨A,hA⟩:∃ A,A=ps.map Pt.q:=⟨_,rfl⟩
 obtain ⟨re,hre⟩:∃ e,e=canE (canL ps) A:=⟨_,rfl⟩
 rw [<-hA] at hgood
 rw [<-hA]
 rw [<-hre] at hgood
 obtain ⟨c,hc⟩:∃ c,c=canL ps:=⟨_,rfl⟩
 rw [<-hc] at kcan hre
 have hln:std.len Pt ps=n:=by rw [s_len,hn]
 have tk9:std.tk Pt ps (std.len Pt ps)=ps:=by rw [s_tk,s_len]; exact List.take_of_length_le (by omega)
 have hAl:A.length=N:=by rw [hA,List.length_map,hN]
 have hL0:std.ad 0 (std.len Pt ps)=n:=by rw [hln]; show 0+n=n; omega
 have hn0:¬ n=0:=by omega
 have w1:64 < n->4=re:=fun h=>by rw [hre,canE,if_pos (by omega)]
 have w2:¬ 64 < n->¬ c=true->1=re:=fun h h'=>by rw [hre,canE,if_neg (by omega),if_pos (by simpa using h')]
 have hcan:c=true->ps=A.map crP:=fun h=>by rw [hA]; exact canL_eq (by rw [<-hc]; exact h)
 have fit9:¬ 64 < n->std.fits (std.ad 0 (std.len Pt ps)) 80:=fun h=>by
  rw [s_fits,hln]
  show 0<=0+n/\0+n<=_/\(0+n)*80<=_
  omega
 have hpA:c=true->∀ p ∈ A,IsP k (crP p) p:=fun h p hq=>by
  have h9:=hcan h
  have hm:crP p ∈ ps:=by rw [h9]; exact List.mem_map_of_mem hq
  have:=hp _ hm
  rwa [show (crP p).q=p from by show (⟨(cr p.x).q,(cr p.y).q⟩:Pq)=p; rw [cr_q,cr_q]] at this
 have hp0:c=true->SimI A N n ps A:=fun h=>⟨by omega,hN.symm,by omega,by rw [hAl,hN,List.take_length]; exact hcan h,rfl,fun p h=>h⟩
 have w9:∀ {i i':Int},i=i'->Value.tuple #[.slice none 0 0,.int .i64 i]=Value.tuple #[.slice none 0 0,.int .i64 i']:=fun h=>by rw [h]
 have hrnd:¬ 64 < n->c=true->∀ L zs l i,SimI A N L zs l->SimL l L i->i < L->∃ a b c j p q r m,SimF A N L zs l i a b c j p q r m:=fun h h' L zs l i hi hi2 hlt=>simF_ex (hpA h') (by omega) (by omega) hi hi2 hlt
 obtain ⟨i0,hi0⟩:∃ i:Int,i=0:=⟨_,rfl⟩
 have hL00:∀ L zs l,SimI A N L zs l->SimL l L i0:=fun L zs l h=>⟨by omega,by have:=h.len; omega,fun k hk=>by rw [hi0] at hk; exact absurd hk (Nat.not_lt_zero _)⟩
 obtain ⟨rs0,hrs0⟩:∃ r,r=(canQ A).map crP:=⟨_,rfl⟩
 rw [<-hrs0]
 have hstop:¬ 64 < n->c=true->∀ L zs l,SimI A N L zs l->¬ 3<=L->12=re:=fun h h' L zs l hi h3=>by
  have h9:=hi.si
  have h8:=hi.len
  rw [simpQ_stop (by omega)] at h9
  rw [hre]
  exact canE_stop h' (by omega) (by rw [<-h9]; omega)
 have hend:¬ 64 < n->c=true->∀ L zs l i,SimI A N L zs l->3<=L->SimL l L i->¬ i < L->std.tk Pt zs L=l.map crP/\∃ xb ar m,EndF l re rs0 xb ar m:=fun h h' L zs l i hi h3 hj hge=>by
  have h8:=hi.len
  have hno:needI l=none:=need_no (fun k hk=>hj.no k (by have:=hj.h1; omega))
  have h9:=hi.si
  rw [simpQ_none hno] at h9
  refine ⟨by rw [s_tk,h8,Int.toNat_natCast]; exact hi.eq,?_⟩
  rw [hre,hrs0]
  exact endF_ex (hpA h') h' (by omega) hk hk1 h9 (by omega)
 have h64all:¬ 64 < n->∀ L zs l,SimI A N L zs l->L<=64:=fun h L zs l hi=>by
  have:=hi.len
  have:=hi.le
  omega
 have htail:¬ 64 < n->c=true->∀ (O:List Pq) zs L,(∀ p ∈ O,p ∈ A)->L=(O.length:Int)->1<=O.length->O.length<=4096->zs.take O.length=O.map crP->∃ fi d1 d2,TailF zs L fi (O.map crP) d1 d2 ((rotQ O).map crP):=fun h h' O zs L hO hL h1 h2 h3=>tailF_ex (fun p hp=>(hpA h' p (hO p hp)).b) hL h1 h2 (by omega) h3
 clear hre hrs0 
 refine Con.of ttFOk mixed Tryz.func17 { ord:=[(13,[0,1,2,3,4,5,6,7,8,9])] } canon_inl 5 (by kernel_rfl) (fun P' E hP hE=>?_)
 cbv
 refine fork.mk ?_ ?_
 ·intro g
  have c1:64 < n:=by subst hE; rw [<-hln]; simpa [std] using g
  exact absurd (w1 c1) (by rw [hgood]; decide)
 intro g
 have c1:¬ 64 < n:=by subst hE; rw [<-hln]; simpa [std] using g
 clear g
 cbv
 refine CallTo.w hP hE kcan ⟨(by subst hE; exact Sm.of (c:=cP) tk9),trivial⟩ ?_
 cbv
 refine fork.mk ?_ ?_
 ·intro g
  have c2:¬ c=true:=by subst hE; simpa [std] using g
  exact absurd (w2 c1 c2) (by rw [hgood]; decide)
 intro g
 have c2:c=true:=by subst hE; simpa [std] using g
 have hrnd:=hrnd c1 c2
 have hstop:=hstop c1 c2
 have hend:=hend c1 c2
 have htail:=htail c1 c2
 have fit9:=fit9 c1
 have hp0:=hp0 c2
 clear g w1 w2
 cbv
 refine NilTo.mk ?_
 intro v hv
 refine fork.mk ?_ ?_
 ·intro g
  have h9:std.len Pt ps=0:=by subst hE; exact hv g
  exact absurd h9 (by rw [hln]; exact hn0)
 intro g
 clear g hv
 cbv
 refine ⟨ps,(by subst hE; exact Sm.of (c:=cP) tk9.symm),?_⟩
 cbv
 refine Need.mk (by subst hE; exact fit9) ?_
 cbv
 refine ScopeTo.by (ι:=Int × List Pt × List Pq) (fun x=>[(0,.s 2 x.1)]) (fun x=>[(2,.row true 33 cP x.2.1)]) (fun x=>SimI A N x.1 x.2.1 x.2.2) (fun x=>x.2.2.length) (n,ps,A) [] hp0 ?_ ?_
 ·cbv
  subst hE
  and_intros
  all_goals first
   | exact True.intro
   | rfl
   | exact congrArg (fun x=>AV.s 2 x) hL0
   | exact Sm.of (c:=cP) (rfl:std.app Pt (std.tk Pt [] 0) ps=ps)
   | (simp; done)
 rintro ⟨L,zs,l⟩ hi
 have hi:SimI A N L zs l:=hi
 have hL0:=hL00 L zs l hi
 clear hp0 hL00
 cbv
 refine LoopTo.by (ι:=Int) (fun x=>[(0,.s 2 L),(6,.v (.int .i64 x))]) (fun x=>[]) (fun x=>SimL l L x) (fun x=>(L - x).toNat) i0 [] hL0 ?_ ?_
 ·cbv
  subst hE
  and_intros
  all_goals first
   | exact True.intro
   | rfl
   | exact vi hi0.symm
   | exact vj hi0.symm
   | (simp; done)
 intro i hj
 have hj:SimL l L i:=hj
 clear hL0
 cbv
 refine fork.mk ?_ ?_
 ·intro g
  have c3:3<=L:=by subst hE; simpa [std] using g
  clear g
  cbv
  refine fork.mk ?_ ?_
  ·intro g
   have hlt:i < L:=by subst hE; simpa [std] using g
   refine Exists.elim (hrnd L zs l i hi hj hlt) ?_
   intro a h
   refine Exists.elim h ?_
   intro b h
   refine Exists.elim h ?_
   intro c h
   refine Exists.elim h ?_
   intro j h
   refine Exists.elim h ?_
   intro p h
   refine Exists.elim h ?_
   intro q h
   refine Exists.elim h ?_
   intro r h
   refine Exists.elim h ?_
   intro m hf
   have e1:=hf.e1
   have e2:=hf.e2
   have e3:=hf.e3
   have e4:=hf.e4
   have in1:=hf.in1
   have in0:0<=std.ib .rem .i64 (std.ib .sub .i64 (std.ib .add .i64 i L) 1) L/\std.ib .rem .i64 (std.ib .sub .i64 (std.ib .add .i64 i L) 1) L < L:=by rw [e1,e2]; exact hf.in0
   have in2:0<=std.ib .rem .i64 (std.ib .add .i64 i 1) L/\std.ib .rem .i64 (std.ib .add .i64 i 1) L < L:=by rw [e3,e4]; exact hf.in2
   have hnz:std.nz .rem L:=hf.nz
   have hg0:std.get Pt zs (std.ib .rem .i64 (std.ib .sub .i64 (std.ib .add .i64 i L) 1) L) zQ=p:=by rw [e1,e2]; exact hf.g0
   have hg1:=hf.g1
   have hg2:std.get Pt zs (std.ib .rem .i64 (std.ib .add .i64 i 1) L) zQ=r:=by rw [e3,e4]; exact hf.g2
   have ko:=hf.co
   have hrem:=hf.rem
   have hno:=hf.no
   have hmu:=hf.mu
   clear hf h g hlt
   cbv
   refine Need.mk (by subst hE; exact hnz) ?_
   cbv
   refine Need.mk (by subst hE; exact in0) ?_
   cbv
   refine Need.mk (by subst hE; exact in1) ?_
   cbv
   refine Need.mk (by subst hE; exact hnz) ?_
   cbv
   refine Need.mk (by subst hE; exact in2) ?_
   cbv
   refine fork.mk ?_ ?_
   ·intro g
    have c4:q=r:=by
     subst hE
     have g:eqCells (std.get Pt zs i zQ).c (std.get Pt zs (std.ib .rem .i64 (std.ib .add .i64 i 1) L) zQ).c=true:=g
     rw [hg1,hg2] at g
     exact (eqc_P q r).1 g
    have hd:=hrem (Or.inl c4) c3
    clear g hno hrem
    cbv
    refine Exists.elim hd ?_
    intro L1 h
    refine Exists.elim h ?_
    intro R h
    refine Exists.elim h ?_
    intro l1 h
    have n1:=h.1.n1
    have f1:=h.1.f1
    have n2:=h.1.n2
    have n3:=h.1.n3
    have n4:=h.1.n4
    have n5:=h.1.n5
    have n6:=h.1.n6
    have hln1:=h.1.ln
    have hrow:=h.1.row
    have hinv:=h.2.1
    have hmu1:=h.2.2
    clear h hd
    refine Need.mk (by subst hE; exact n1) ?_
    cbv
    refine forkNo (by subst hE; exact f1) ?_
    cbv
    refine Need.mk (by subst hE; exact n2) ?_
    cbv
    refine Need.mk (by subst hE; exact n3) ?_
    cbv
    refine Need.mk (by subst hE; exact n4) ?_
    cbv
    refine Need.mk (by subst hE; exact n5) ?_
    cbv
    refine Need.mk (by subst hE; exact n6) ?_
    cbv
    refine ⟨(L1,R,l1),[0,1,2],hinv,hmu1,?_⟩
    cbv
    subst hE
    and_intros
    all_goals first
     | exact True.intro
     | rfl
     | exact congrArg (fun x=>AV.s 2 x) hln1
     | exact Sm.of (c:=cP) hrow
     | (intro h; cases h; done)
     | (simp; done)
   ·intro g
    have c4:¬ q=r:=by
     subst hE
     have g:eqCells (std.get Pt zs i zQ).c (std.get Pt zs (std.ib .rem .i64 (std.ib .add .i64 i 1) L) zQ).c=false:=g
     rw [hg1,hg2] at g
     exact fun e=>by rw [(eqc_P q r).2 e] at g; exact absurd g (by decide)
    clear g
    cbv
    refine CallTo.w hP hE ko ⟨(by subst hE; exact congrArg (fun p:Pt=>p.v) hg0),(by subst hE; exact congrArg (fun p:Pt=>p.v) hg1),(by subst hE; exact congrArg (fun p:Pt=>p.v) hg2),trivial⟩ ?_
    cbv
    refine fork.mk ?_ ?_
    ·intro g
     have c5:m=0:=by subst hE; simpa [std] using g
     have hd:=hrem (Or.inr c5) c3
     clear g hno hrem
     cbv
     refine Exists.elim hd ?_
     intro L1 h
     refine Exists.elim h ?_
     intro R h
     refine Exists.elim h ?_
     intro l1 h
     have n1:=h.1.n1
     have f1:=h.1.f1
     have n2:=h.1.n2
     have n3:=h.1.n3
     have n4:=h.1.n4
     have n5:=h.1.n5
     have n6:=h.1.n6
     have hln1:=h.1.ln
     have hrow:=h.1.row
     have hinv:=h.2.1
     have hmu1:=h.2.2
     clear h hd
     refine Need.mk (by subst hE; exact n1) ?_
     cbv
     refine forkNo (by subst hE; exact f1) ?_
     cbv
     refine Need.mk (by subst hE; exact n2) ?_
     cbv
     refine Need.mk (by subst hE; exact n3) ?_
     cbv
     refine Need.mk (by subst hE; exact n4) ?_
     cbv
     refine Need.mk (by subst hE; exact n5) ?_
     cbv
     refine Need.mk (by subst hE; exact n6) ?_
     cbv
     refine ⟨(L1,R,l1),[0,1,2],hinv,hmu1,?_⟩
     cbv
     subst hE
     and_intros
     all_goals first
      | exact True.intro
      | rfl
      | exact congrArg (fun x=>AV.s 2 x) hln1
      | exact Sm.of (c:=cP) hrow
      | (intro h; cases h; done)
      | (simp; done)
    ·intro g
     have c5:¬ m=0:=by subst hE; simpa [std] using g
     have hst:=hno c4 c5
     clear hrem hno g
     cbv
     refine ⟨j,[],hst,hmu,?_⟩
     cbv
     subst hE
     and_intros
     all_goals first
      | exact True.intro
      | rfl
      | exact vi e3
      | exact vj e3
      | (intro h; cases h; done)
      | (simp; done)
  ·intro g
   have hge:¬ i < L:=by subst hE; simpa [std] using g
   have htk:=(hend L zs l i hi c3 hj hge).1
   have hx:=(hend L zs l i hi c3 hj hge).2
   have hsub:=hi.sub
   have hlL:=hi.len
   have hlN:=hi.le
   have hL64:L<=64:=h64all c1 L zs l hi
   clear hend hstop hrnd hge g hj
   cbv
   refine forkNo (by subst hE; exact decide_eq_false (by omega)) ?_
   cbv
   refine Exists.elim hx ?_
   intro xb h
   refine Exists.elim h ?_
   intro ar h
   refine Exists.elim h ?_
   intro m hf
   have kx:=hf.kx
   have x13:=hf.x13
   have re0:=hf.re0
   have ka:=hf.ka
   have ks:=hf.ks
   have hneg:=hf.neg
   have hpos:=hf.pos
   clear hf h hx
   refine CallTo.w hP hE kx ⟨(by subst hE; exact Sm.of (c:=cP) htk),trivial⟩ ?_
   cbv
   refine fork.mk ?_ ?_
   ·intro g
    have hr:=x13 (by simpa using g)
    exact absurd hr (by rw [hgood]; decide)
   intro g
   have hr:=re0 (by simpa using g)
   clear x13 re0 g
   cbv
   refine CallTo.w hP hE ka ⟨(by subst hE; exact Sm.of (c:=cP) htk),trivial⟩ ?_
   cbv
   refine CallTo.w hP hE ks ⟨rfl,trivial⟩ ?_
   cbv
   refine fork.mk ?_ ?_
   ·intro g
    have hlL:L=(l.length:Int):=hlL
    have hL64:L<=64:=hL64
    have c3:3<=L:=c3
    have c5:m < 0:=by subst hE; simpa [std] using g
    have hrs:=hneg c5
    obtain ⟨j8,hj8⟩:∃ j:Int,j=L - 1:=⟨_,rfl⟩
    have hj8E:std.ib .sub .i64 L 1=j8:=by rw [s_sub,w64 (by omega) (by omega),hj8]
    have hR0:RvI l N i0 j8 zs l:=⟨by omega,hi.zl,hi.eq,by
     have e:j8=(l.length:Int) - 1:=by omega
     rw [hi0,e]; exact RevI.first l⟩
    have hrv:∀ i j zs l4,RvI l N i j zs l4->i < j->∃ w1 w2 i' j' zs' l',RvF l N L i j zs w1 w2 i' j' zs' l':=fun i j zs l4 h h'=>rvF_ex hlL (by omega) h h'
    have hrf:∀ i j zs l4,RvI l N i j zs l4->¬ i < j->∃ fi d1 d2,TailF zs L fi (l.reverse.map crP) d1 d2 ((rotQ l.reverse).map crP):=fun i j zs l4 h h'=>by
     have h0:=h.h0
     have e:=h.rv.done (by omega)
     have e2:=h.eq
     rw [e] at e2
     exact htail l.reverse zs L (fun p hp=>hsub p (List.mem_reverse.1 hp)) (by rw [List.length_reverse]; exact hlL) (by rw [List.length_reverse]; omega) (by rw [List.length_reverse]; omega) e2
    clear hneg hpos hsub htail g
    cbv
    refine LoopTo.by (ι:=Int × Int × List Pt × List Pq) (fun x=>[(2,.v (.int .i64 x.1)),(3,.v (.int .i64 x.2.1))]) (fun x=>[(2,.row true 33 cP x.2.2.1)]) (fun x=>RvI l N x.1 x.2.1 x.2.2.1 x.2.2.2) (fun x=>(x.2.1 - x.1).toNat) (i0,j8,zs,l) [] hR0 ?_ ?_
    ·cbv
     subst hE
     and_intros
     all_goals first
      | exact True.intro
      | rfl
      | exact vi hi0.symm
      | exact vj hi0.symm
      | exact vi hj8E
      | exact vj hj8E
      | (simp; done)
    ·rintro ⟨i,j,ws,l4⟩ hi
     have hi:RvI l N i j ws l4:=hi
     clear hR0
     cbv
     refine fork.mk ?_ ?_
     ·intro g8
      have hlt:i < j:=by subst hE; simpa [std] using g8
      refine Exists.elim (hrv i j ws l4 hi hlt) ?_
      intro w1 h
      refine Exists.elim h ?_
      intro w2 h
      refine Exists.elim h ?_
      intro i' h
      refine Exists.elim h ?_
      intro j' h
      refine Exists.elim h ?_
      intro ws' h
      refine Exists.elim h ?_
      intro l4' hf
      have in1:=hf.in1
      have in2:=hf.in2
      have hrw:=hf.row
      have hai:=hf.add
      have haj:=hf.sub
      have hinv:=hf.inv
      have hmu:=hf.mu
      clear hf h hi g8 hlt hrv hrf
      cbv
      refine Need.mk (by subst hE; exact in2) ?_
      cbv
      refine Need.mk (by subst hE; exact in1) ?_
      cbv
      refine Need.mk (by subst hE; exact in1) ?_
      cbv
      refine Need.mk (by subst hE; exact in2) ?_
      cbv
      refine ⟨(i',j',ws',l4'),[],hinv,hmu,?_⟩
      cbv
      subst hE
      and_intros
      all_goals first
       | exact True.intro
       | rfl
       | exact vi hai
       | exact vj hai
       | exact vi haj
       | exact vj haj
       | exact Sm.of hrw
       | (intro h; cases h; done)
       | (simp; done)
     ·intro g8
      have hge:¬ i < j:=by subst hE; simpa [std] using g8
      have ht:=hrf i j ws l4 hi hge
      clear hi hge g8 hrf hrv
      cbv
      refine Exists.elim ht ?_
      intro fi h
      refine Exists.elim h ?_
      intro d1 h
      refine Exists.elim h ?_
      intro d2 hf
      have kf:=hf.kf
      have htk2:=hf.tk
      have r1:=hf.r1
      have r2:=hf.r2
      have hw1:=hf.w1
      have hw2:=hf.w2
      have f1:=hf.c.f1
      have f2:=hf.c.f2
      have f3:=hf.c.f3
      have r3:=hf.c.r3
      have r4:=hf.c.r4
      have t1:=hf.r.t1
      have t2:=hf.r.t2
      have hfin:=(congrArg (fun z=>std.tk Pt z (std.ad (std.ad 0 (std.len Pt d1)) (std.len Pt d2))) hf.r.row).trans hf.r.tk
      rw [<-hrs] at hfin
      clear hf h ht
      refine CallTo.w hP hE kf ⟨(by subst hE; exact Sm.of (c:=cP) htk2),trivial⟩ ?_
      cbv
      refine Need.mk (by subst hE; exact r1) ?_
      cbv
      refine Need.mk (by subst hE; exact r2) ?_
      cbv
      refine forkNo (by subst hE; exact f1) ?_
      cbv
      refine forkNo (by subst hE; exact f2) ?_
      cbv
      refine forkNo (by subst hE; exact f2) ?_
      cbv
      refine forkYes (by subst hE; exact f3) ?_
      cbv
      refine Need.mk (by subst hE; and_intros<;>exact Int.le_refl _) ?_
      cbv
      refine Need.mk (by subst hE; exact r3) ?_
      cbv
      refine Need.mk (by subst hE; exact r4) ?_
      cbv
      refine ⟨d1,(by subst hE; exact Sm.of (c:=cP) hw1),?_⟩
      cbv
      refine Need.mk (by subst hE; exact t1) ?_
      cbv
      refine ⟨d2,(by subst hE; exact Sm.of (c:=cP) hw2),?_⟩
      cbv
      refine Need.mk (by subst hE; exact t2) ?_
      cbv
      subst hE
      exact ⟨Sm.of (c:=cP) hfin,trivial⟩
   ·intro g
    have hlL:L=(l.length:Int):=hlL
    have hL64:L<=64:=hL64
    have c3:3<=L:=c3
    have c5:¬ m < 0:=by subst hE; simpa [std] using g
    have hrs:=hpos c5
    have ht:=htail l zs L (fun p hp=>hsub p hp) hlL (by omega) (by omega) hi.eq
    clear hneg hpos hsub htail g
    cbv
    refine Exists.elim ht ?_
    intro fi h
    refine Exists.elim h ?_
    intro d1 h
    refine Exists.elim h ?_
    intro d2 hf
    have kf:=hf.kf
    have htk2:=hf.tk
    have r1:=hf.r1
    have r2:=hf.r2
    have hw1:=hf.w1
    have hw2:=hf.w2
    have f1:=hf.c.f1
    have f2:=hf.c.f2
    have f3:=hf.c.f3
    have r3:=hf.c.r3
    have r4:=hf.c.r4
    have t1:=hf.r.t1
    have t2:=hf.r.t2
    have hfin:=(congrArg (fun z=>std.tk Pt z (std.ad (std.ad 0 (std.len Pt d1)) (std.len Pt d2))) hf.r.row).trans hf.r.tk
    rw [<-hrs] at hfin
    clear hf h ht
    refine CallTo.w hP hE kf ⟨(by subst hE; exact Sm.of (c:=cP) htk2),trivial⟩ ?_
    cbv
    refine Need.mk (by subst hE; exact r1) ?_
    cbv
    refine Need.mk (by subst hE; exact r2) ?_
    cbv
    refine forkNo (by subst hE; exact f1) ?_
    cbv
    refine forkNo (by subst hE; exact f2) ?_
    cbv
    refine forkNo (by subst hE; exact f2) ?_
    cbv
    refine forkYes (by subst hE; exact f3) ?_
    cbv
    refine Need.mk (by subst hE; and_intros<;>exact Int.le_refl _) ?_
    cbv
    refine Need.mk (by subst hE; exact r3) ?_
    cbv
    refine Need.mk (by subst hE; exact r4) ?_
    cbv
    refine ⟨d1,(by subst hE; exact Sm.of (c:=cP) hw1),?_⟩
    cbv
    refine Need.mk (by subst hE; exact t1) ?_
    cbv
    refine ⟨d2,(by subst hE; exact Sm.of (c:=cP) hw2),?_⟩
    cbv
    refine Need.mk (by subst hE; exact t2) ?_
    cbv
    subst hE
    exact ⟨Sm.of (c:=cP) hfin,trivial⟩
 ·intro g
  have c3:¬ 3<=L:=by subst hE; simpa [std] using g
  have hr:=hstop L zs l hi c3
  cbv
  refine forkYes (by subst hE; exact decide_eq_true (by omega)) ?_
  exact absurd hr (by rw [hgood]; decide)
theorem canL_map (l:List Pq):canL (l.map crP)=true:=by
 unfold canL
 rw [List.all_eq_true]
 intro x hx
 obtain ⟨y,_,rfl⟩:=List.mem_map.1 hx
 rw [canP_iff]
 show _=crP ⟨(cr y.x).q,(cr y.y).q⟩
 rw [cr_q,cr_q]
theorem chkA_map (l:List Pq):chkA (l.map crP)=if l.length < 3\/64 < l.length then 4 else if 0<=flatI l then 12 else if crossB l=true then 13 else if cmpQ (areaQ l) 0<=0 then 8 else if ((firstI l:Nat):Int)=0 then 0 else 8:=by
 unfold chkA chkI
 rw [List.length_map,canL_map,if_pos rfl,map_q]
def J2 (a b:Int):Pq:=⟨(a:Rat),(b:Rat)⟩
def LA:List Pq:=[J2 2 0,J2 2 2,J2 0 2,J2 0 0,J2 1 0]
def LB:List Pq:=[J2 0 0,J2 2 0,J2 2 2,J2 0 2]
theorem la1:canQ LA=LB:=by kernel_rfl
theorem la2:canE true LA=0:=by kernel_rfl
theorem lb1:areaQ LB=((4:Int):Rat):=by kernel_rfl
theorem lb2:centQ LB=J2 1 1:=by kernel_rfl
theorem lb3:sideQ LB (J2 1 0)=0:=by kernel_rfl
theorem lb4:sideQ LB (J2 3 1) = -1:=by kernel_rfl
theorem lb5:flatI LB = -1:=by kernel_rfl
theorem lb6:crossB LB=false:=by kernel_rfl
theorem lb7:cmpQ ((4:Int):Rat) 0=1:=by kernel_rfl
theorem lb8:firstI LB=0:=by kernel_rfl
theorem lb9:chkA (LB.map crP)=0:=by
 rw [chkA_map,lb5,lb6,lb1,lb7,lb8,if_neg (by decide),if_neg (by decide),if_neg (by decide),if_neg (by decide)]; rfl
abbrev in64' (n:Int):Prop := -9223372036854775808<=n/\n < 9223372036854775808
theorem J2.bd {a b:Int} (ha:in64' a) (hb:in64' b):BdP 8 (J2 a b):=⟨bd_int ha,bd_int hb⟩
theorem J2.is {a b:Int} (ha:in64' a) (hb:in64' b):IsP 8 (crP (J2 a b)) (crP (J2 a b)).q:=by
 have h:=(J2.bd ha hb).is
 have e:(crP (J2 a b)).q=J2 a b:=by show (⟨(cr (J2 a b).x).q,(cr (J2 a b).y).q⟩:Pq)=_; rw [cr_q,cr_q]
 rw [e]; exact h
theorem q_crP (p:Pq):(crP p).q=p:=by show (⟨(cr p.x).q,(cr p.y).q⟩:Pq)=_; rw [cr_q,cr_q]
theorem awake10_con:Con Tryz.prog 16 [] (.v (.bool true)):=by
 have isA:∀ p ∈ LA.map crP,IsP 8 p p.q:=by
  intro p hp
  simp only [LA,List.map_cons,List.map_nil,List.mem_cons,List.not_mem_nil,or_false] at hp
  rcases hp with rfl | rfl | rfl | rfl | rfl<;>exact J2.is (by decide) (by decide)
 have isB:∀ p ∈ LB.map crP,IsP 8 p p.q:=by
  intro p hp
  simp only [LB,List.map_cons,List.map_nil,List.mem_cons,List.not_mem_nil,or_false] at hp
  rcases hp with rfl | rfl | rfl | rfl<;>exact J2.is (by decide) (by decide)
 have kcn:=canon_ok isA (by decide) (by decide) (by decide) (by decide) (by rw [canL_map,map_q]; exact la2)
 rw [map_q,la1] at kcn
 have kce:=centroid_q isB (by decide) (by decide) (by decide)
 have ki1:=inside_q isB (by decide) (by decide) (by decide) (z:=crP (J2 1 0)) (J2.is (by decide) (by decide))
 have ki2:=inside_q isB (by decide) (by decide) (by decide) (z:=crP (J2 3 1)) (J2.is (by decide) (by decide))
 have c1:canL [crP (J2 1 0)]=true:=canL_map [J2 1 0]
 have c2:canL [crP (J2 3 1)]=true:=canL_map [J2 3 1]
 rw [cenP,cenE,lb9,if_pos rfl,if_pos rfl,map_q,lb2] at kce
 rw [insS,insE,lb9,if_pos rfl,if_pos rfl,c1,if_pos rfl,if_pos rfl,map_q,q_crP,lb3] at ki1
 rw [insS,insE,lb9,if_pos rfl,if_pos rfl,c2,if_pos rfl,if_pos rfl,map_q,q_crP,lb4] at ki2
 have ksm:=same_q (LB.map crP) (LB.map crP) (by decide)
 rw [eqL_iff.2 rfl] at ksm
 have kar:=area_q isB (by decide) (by decide) (by decide)
 rw [map_q,lb1] at kar
 have k4:=ofQ_q 4 (by decide) (by decide)
 have v20:=vof_q 2 0 (by decide)
 have v22:=vof_q 2 2 (by decide)
 have v02:=vof_q 0 2 (by decide)
 have v00:=vof_q 0 0 (by decide)
 have v10:=vof_q 1 0 (by decide)
 have v31:=vof_q 3 1 (by decide)
 have v11:=vof_q 1 1 (by decide)
 have v20:Con Tryz.prog 90 _ (.v (crP (J2 2 0)).v):=v20
 have v22:Con Tryz.prog 90 _ (.v (crP (J2 2 2)).v):=v22
 have v02:Con Tryz.prog 90 _ (.v (crP (J2 0 2)).v):=v02
 have v00:Con Tryz.prog 90 _ (.v (crP (J2 0 0)).v):=v00
 have v10:Con Tryz.prog 90 _ (.v (crP (J2 1 0)).v):=v10
 have v31:Con Tryz.prog 90 _ (.v (crP (J2 3 1)).v):=v31
 have v11:Con Tryz.prog 90 _ (.v (crP (J2 1 1)).v):=v11
 have eA:LA.map crP=[crP (J2 2 0),crP (J2 2 2),crP (J2 0 2),crP (J2 0 0),crP (J2 1 0)]:=rfl
 have eB:LB.map crP=[crP (J2 0 0),crP (J2 2 0),crP (J2 2 2),crP (J2 0 2)]:=rfl
 rw [eA] at kcn
 have ksm:Con Tryz.prog 22 [.ro cP (LB.map crP),.ro cP [crP (J2 0 0),crP (J2 2 0),crP (J2 2 2),crP (J2 0 2)]] _:=ksm
 obtain ⟨rs,hrs⟩:∃ r,r=LB.map crP:=⟨_,rfl⟩
 obtain ⟨p20,e20⟩:∃ p,p=crP (J2 2 0):=⟨_,rfl⟩
 obtain ⟨p22,e22⟩:∃ p,p=crP (J2 2 2):=⟨_,rfl⟩
 obtain ⟨p02,e02⟩:∃ p,p=crP (J2 0 2):=⟨_,rfl⟩
 obtain ⟨p00,e00⟩:∃ p,p=crP (J2 0 0):=⟨_,rfl⟩
 obtain ⟨p10,e10⟩:∃ p,p=crP (J2 1 0):=⟨_,rfl⟩
 obtain ⟨p31,e31⟩:∃ p,p=crP (J2 3 1):=⟨_,rfl⟩
 obtain ⟨p11,e11⟩:∃ p,p=crP (J2 1 1):=⟨_,rfl⟩
 obtain ⟨x4,e4⟩:∃ p,p=cr ((4:Int):Rat):=⟨_,rfl⟩
 rw [<-e20] at v20 kcn ksm
 rw [<-e22] at v22 kcn ksm
 rw [<-e02] at v02 kcn ksm
 rw [<-e00] at v00 kcn ksm
 rw [<-e10] at v10 kcn ki1
 rw [<-e31] at v31 ki2
 rw [<-e11] at v11 kce
 rw [<-e4] at k4 kar
 rw [<-hrs] at kcn kce ki1 ki2 ksm kar
 have tkr:std.tk Pt rs (std.len Pt rs)=rs:=by rw [s_tk,s_len]; exact List.take_of_length_le (by omega)
 clear isA isB c1 c2 eA eB e20 e22 e02 e00 e10 e31 e11 e4 hrs
 refine Con.of ttOk mixed Tryz.func16 { ord:=[(5,[0,1,2,3,4,5,6,7,8,9,10,11,12,13,14,15,16,17,18,19,20,21,22,23,24,25,26,27,28,29,30,31,32,33,34,35,36,37,38,39,40,41,42])] } .nil 0 (by kernel_rfl) (fun P' E hP hE=>?_)
 cbv
 refine CallTo.w hP hE v20 ⟨rfl,rfl,trivial⟩ ?_
 cbv
 refine CallTo.w hP hE v22 ⟨rfl,rfl,trivial⟩ ?_
 cbv
 refine CallTo.w hP hE v02 ⟨rfl,rfl,trivial⟩ ?_
 cbv
 refine CallTo.w hP hE v00 ⟨rfl,rfl,trivial⟩ ?_
 cbv
 refine CallTo.w hP hE v10 ⟨rfl,rfl,trivial⟩ ?_
 cbv
 refine CallTo.con hP hE kcn ⟨⟨cP_ok,rfl,rfl,by decide⟩,trivial⟩ ?_
 cbv
 refine CallTo.w hP hE kce ⟨(by subst hE; exact Sm.of (c:=cP) tkr),trivial⟩ ?_
 cbv
 refine CallTo.w hP hE v10 ⟨rfl,rfl,trivial⟩ ?_
 cbv
 refine CallTo.w hP hE ki1 ⟨(by subst hE; exact Sm.of (c:=cP) tkr),rfl,trivial⟩ ?_
 cbv
 refine CallTo.w hP hE v31 ⟨rfl,rfl,trivial⟩ ?_
 cbv
 refine CallTo.w hP hE ki2 ⟨(by subst hE; exact Sm.of (c:=cP) tkr),rfl,trivial⟩ ?_
 cbv
 refine forkYes (by subst hE; rfl) ?_
 cbv
 refine forkYes (by subst hE; rfl) ?_
 cbv
 refine forkYes (by subst hE; rfl) ?_
 cbv
 refine forkYes (by subst hE; rfl) ?_
 cbv
 refine CallTo.w hP hE v00 ⟨rfl,rfl,trivial⟩ ?_
 cbv
 refine CallTo.w hP hE v20 ⟨rfl,rfl,trivial⟩ ?_
 cbv
 refine CallTo.w hP hE v22 ⟨rfl,rfl,trivial⟩ ?_
 cbv
 refine CallTo.w hP hE v02 ⟨rfl,rfl,trivial⟩ ?_
 cbv
 refine CallTo.w hP hE ksm ⟨(by subst hE; exact Sm.of (c:=cP) tkr),⟨cP_ok,rfl,rfl,by decide⟩,trivial⟩ ?_
 cbv
 refine forkYes (by subst hE; rfl) ?_
 cbv
 refine CallTo.w hP hE kar ⟨(by subst hE; exact Sm.of (c:=cP) tkr),trivial⟩ ?_
 cbv
 refine CallTo.w hP hE k4 ⟨rfl,trivial⟩ ?_
 cbv
 refine forkYes (by subst hE; exact (eqc_R x4 x4).2 rfl) ?_
 cbv
 refine CallTo.w hP hE v11 ⟨rfl,rfl,trivial⟩ ?_
 cbv
 refine forkYes (by subst hE; exact (eqc_P p11 p11).2 rfl) ?_
 cbv
 refine forkYes (by subst hE; rfl) ?_
 cbv
 subst hE
 rfl
theorem awake10_c {P':Program} {E:Env} (hP:P'=Tryz.prog) (hE:E=std) {hh:List Blk} {K:AV->List Blk->Prop} (hk:K (.v (.bool true)) hh):CallTo P' hh 16 [] K:=
 CallTo.w hP hE awake10_con trivial hk
theorem all_tk9 {α:Type} (l:List α):std.tk α l (std.len α l)=l:=by
 rw [s_tk,s_len]; exact List.take_of_length_le (by omega)
/-- Is a list a ring of at most 14 vertices? -/
def fineB (l:List Pt):Bool := !bigG l && (decide (l.length<=14) && decide (chkA l=0))
theorem fine_q (l:List Pt) (hl:l.length<=maxLen):Con Tryz.prog 23 [.ro cP l] (.v (.bool (fineB l))):=by
 have kg:=great24_con l hl
 have kc:bigG l=false->Con Tryz.prog 19 [.ro cP l] (.v (.int .i64 (chkA l))):=fun h=>chk_a (bigC_is h) hl (by decide) (by decide)
 obtain ⟨r,er⟩:∃ r,r=fineB l:=⟨_,rfl⟩
 rw [<-er]
 unfold fineB at er
 obtain ⟨ga,ega⟩:∃ r,r=bigG l:=⟨_,rfl⟩
 obtain ⟨c,ec⟩:∃ r,r=chkA l:=⟨_,rfl⟩
 obtain ⟨n,hn⟩:∃ n:Int,n=l.length:=⟨_,rfl⟩
 have hln:std.len Pt l=n:=by rw [s_len,hn]
 have tkl:std.tk Pt l (std.len Pt l)=l:=by rw [s_tk,s_len]; exact List.take_of_length_le (by omega)
 rw [<-ega] at kg kc er
 rw [<-ec] at kc er
 have w1:ga=true->false=r:=fun h=>by rw [er,h]; rfl
 have w2:ga=false->¬ n<=14->false=r:=fun h h'=>by rw [er,h,decide_eq_false (by omega)]; rfl
 have w3:ga=false->n<=14->std.ic .eql c 0=r:=fun h h'=>by rw [er,h,decide_eq_true (by omega)]; rfl
 clear er ega ec hn hl
 refine Con.of ttOk mixed Tryz.func23 {} .nil 0 (by kernel_rfl) (fun P' E hP hE=>?_)
 cbv
 refine CallTo.w hP hE kg ⟨(by subst hE; exact Sm.of (c:=cP) tkl),trivial⟩ ?_
 cbv
 refine fork.mk ?_ ?_
 ·intro g
  have c1:ga=false:=by subst hE; simpa [std] using g
  have kc:=kc c1
  clear g
  cbv
  refine fork.mk ?_ ?_
  ·intro g
   have c2:n<=14:=by subst hE; rw [<-hln]; simpa [std] using g
   have hr:=w3 c1 c2
   clear g
   cbv
   refine CallTo.w hP hE kc ⟨(by subst hE; exact Sm.of (c:=cP) tkl),trivial⟩ ?_
   cbv
   subst hE
   exact congrArg Value.bool hr
  ·intro g
   have c2:¬ n<=14:=by subst hE; rw [<-hln]; simpa [std] using g
   have hr:=w2 c1 c2
   cbv
   exact congrArg Value.bool hr
 ·intro g
  have c1:ga=true:=by subst hE; simpa [std] using g
  have hr:=w1 c1
  cbv
  exact congrArg Value.bool hr
/-- What a ring of at most 14 vertices is. -/
structure Fine (l:List Pt) (A:List Pq):Prop where
 eq:l=A.map crP
 len:A.length=l.length
 h3:3<=l.length
 h14:l.length<=14
 is:∀ p ∈ l,IsP 24 p p.q
 bd:∀ p ∈ A,BdP 24 p
 fl:¬ 0<=flatI A
 cr:¬ crossB A=true
 ar:¬ cmpQ (areaQ A) 0<=0
 fi:firstI A=0
theorem fine_ex {l:List Pt} (h:fineB l=true):∃ A,Fine l A:=by
 unfold fineB at h
 simp only [Bool.and_eq_true,Bool.not_eq_true',decide_eq_true_iff] at h
 obtain ⟨hg,h14,hc⟩:=h
 have his:=bigC_is hg
 unfold chkA at hc
 by_cases c0:l.length < 3\/64 < l.length
 ·rw [if_pos c0] at hc; exact absurd hc (by decide)
 ·rw [if_neg c0] at hc
  unfold chkI at hc
  by_cases c1:canL l=true
  ·rw [if_pos c1] at hc
   by_cases c2:0<=flatI (l.map Pt.q)
   ·rw [if_pos c2] at hc; exact absurd hc (by decide)
   ·rw [if_neg c2] at hc
    by_cases c3:crossB (l.map Pt.q)=true
    ·rw [if_pos c3] at hc; exact absurd hc (by decide)
    ·rw [if_neg c3] at hc
     by_cases c4:cmpQ (areaQ (l.map Pt.q)) 0<=0
     ·rw [if_pos c4] at hc; exact absurd hc (by decide)
     ·rw [if_neg c4] at hc
      by_cases c5:((firstI (l.map Pt.q):Nat):Int)=0
      ·refine ⟨l.map Pt.q,canL_eq c1,List.length_map _,by omega,h14,his,?_,c2,c3,c4,by omega⟩
       intro p hp
       obtain ⟨x,hx,rfl⟩:=List.mem_map.1 hp
       exact (his x hx).b
      ·rw [if_neg c5] at hc; exact absurd hc (by decide)
  ·rw [if_neg c1] at hc; exact absurd hc (by decide)
theorem area_of {k:Nat} (A:List Pq) (hb:∀ p ∈ A,BdP k p) (hl:A.length<=4096) (hk:40960*k+40960<=134217728) (hk1:1<=k):Con Tryz.prog 32 [.ro cP (A.map crP)] (.v (cr (areaQ A)).v):=by
 have h:=area_q (k:=k) (ps:=A.map crP) (fun p hp=>by
  obtain ⟨x,hx,rfl⟩:=List.mem_map.1 hp
  rw [q_crP]; exact (hb x hx).is) (by rw [List.length_map]; exact hl) hk hk1
 rw [map_q] at h
 exact h
end Go.Proofs.YtkipmmiiackdaaaGreat.Sx
