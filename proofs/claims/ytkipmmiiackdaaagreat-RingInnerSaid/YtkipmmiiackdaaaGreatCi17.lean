/- Part 17 of what the statement needs: an executor of Go texts, arithmetic, and contracts of the functions that are called. -/
import Derived.Test.YtkipmmiiackdaaaGreatCi16
set_option linter.unusedSimpArgs false
set_option linter.unusedVariables false
set_option maxHeartbeats 8000000
set_option maxRecDepth 100000
namespace Go.Proofs.YtkipmmiiackdaaaGreat.Sx
open Env (std)
theorem divide_many (a d:Nat) (h:d<=a) (ha:(lb a).length<=137438953470) (hk:2<=(lb d).length):Con Tryz.prog 281 [.ro cU (lb a),.ro cU (lb d)] (.tup [.ro cU (lb (a / d)),.ro cU (lb (a % d))]):=by
 have hle:(lb d).length<=(lb a).length:=by
  refine Decidable.byContradiction fun c=>?_
  have:=cmp_len (a:=a) (b:=d) (by omega)
  omega
 obtain ⟨t,n,us,vs,ht,ht1,hn,hl,D⟩:=Dv.ex (a:=a) (d:=d) hk
 have d0:0 < d:=by
  refine Decidable.byContradiction fun c=>?_
  have:d=0:=by omega
  rw [this,lb_zero] at hk; simp at hk
 have hc:=compare_con a d (by omega) (by omega)
 have hz:=lz32_con (t:Int) (32 - n) (by omega) (by omega) (by rw [Int.toNat_natCast]; exact hl) (by omega)
 have hz2:(32:Int) - ((32 - n:Nat):Int)=n:=by omega
 rw [hz2] at hz
 have hsx:=shift_core (lb a) us n (lb_ok a) (by omega) hn D.uok D.ul (by rw [D.uv,val_lb])
 have hsy:=shift_core (lb d) vs n (lb_ok d) (by omega) hn D.vok D.vl (by rw [D.vv,val_lb])
 have htr:=trim_con vs (by rw [D.vl]; omega)
 rw [D.tl] at htr
 obtain ⟨c,hcc⟩:∃ c,c=cmpI a d:=⟨_,rfl⟩
 have hc0:0<=c:=by rw [hcc,cmpI,if_neg (by omega)]; split<;>omega
 rw [<-hcc] at hc
 obtain ⟨m,hm⟩:∃ m,m=(lb a).length+1 - (lb d).length:=⟨_,rfl⟩
 obtain ⟨i0,hi0⟩:∃ i:Int,i=(m:Int) - 1:=⟨_,rfl⟩
 obtain ⟨q0,hq0⟩:∃ q:List Int,q=List.replicate m 0:=⟨_,rfl⟩
 have hQ:=Dv.start D hk hle hm hi0 hq0
 have hws:=D.ws
 have hwt:=D.vt
 have hwl:(lb d).length=(lb (d*2 ^ n)).length:=D.ws.1.symm
 have hfin:=fun us' qs' i=>Dv.fin (a:=a) (m:=m) (L:=(lb a).length+1) (us':=us') (qs':=qs') (i:=i) d0 D.ws.2
 have hwtop:4294967296 ^ ((lb (d*2 ^ n)).length - 1)<=val (lb (d*2 ^ n)):=by
  rw [val_lb]
  refine lb_ge _ ?_
  have:0 < d*2 ^ n:=Nat.mul_pos d0 (Nat.pow_pos (by decide))
  omega
 have hwok:=lb_ok (d*2 ^ n)
 have hvl:=D.vl
 have hul:=D.ul
 obtain ⟨qq,hqq⟩:∃ x,x=lb (a / d):=⟨_,rfl⟩
 obtain ⟨rr,hrr⟩:∃ x,x=lb (a % d):=⟨_,rfl⟩
 rw [<-hqq,<-hrr]
 obtain ⟨ws,hwse⟩:∃ x,x=lb (d*2 ^ n):=⟨_,rfl⟩
 rw [<-hwse] at hQ hws hwt hwtop hwok hwl
 simp only [<-hwse] at hfin
 obtain ⟨xs,hxs⟩:∃ x,x=lb a:=⟨_,rfl⟩
 obtain ⟨ys,hys⟩:∃ x,x=lb d:=⟨_,rfl⟩
 rw [<-hxs,<-hys] at hc hle hm
 rw [<-hxs] at hsx ha hQ hul
 simp only [<-hxs] at hfin
 rw [<-hys] at hsy htr ht hk hws hvl hwl
 rw [<-hxs,<-hys]
 rw [D.tl,<-hys] at hwt
 obtain ⟨tt',htt⟩:∃ x:Int,x=t:=⟨_,rfl⟩
 rw [<-htt] at hz ht
 obtain ⟨nn,hnn⟩:∃ x:Int,x=n:=⟨_,rfl⟩
 rw [<-hnn] at hz hsx hsy
 obtain ⟨kk,hkk⟩:∃ x:Int,x=ys.length:=⟨_,rfl⟩
 rw [<-hkk] at htr
 refine Con.of ttOk mixed Tryz.func281 {} digit_ok 1 (by kernel_rfl) (fun P' E hP hE=>?_)
 clear hcc hxs hys
 have hlx:std.tk Int xs (std.len Int xs)=xs:=by rw [s_tk,s_len,List.take_of_length_le (by omega)]
 have hly:std.tk Int ys (std.len Int ys)=ys:=by rw [s_tk,s_len,List.take_of_length_le (by omega)]
 have hlu:std.tk Int us (std.len Int us)=us:=by rw [s_tk,s_len,List.take_of_length_le (by omega)]
 have hlv:std.tk Int vs (std.len Int vs)=vs:=by rw [s_tk,s_len,List.take_of_length_le (by omega)]
 have hks:std.ib .sub .i64 (std.len Int ys) 1=kk - 1:=by
  rw [s_sub,s_len,w64 (by omega) (by omega),hkk]
 have hgt:std.get Int ys (std.ib .sub .i64 (std.len Int ys) 1) 0=tt':=by
  have e:(kk - 1).toNat=ys.length - 1:=by omega
  rw [hks,s_get,e,ht]
 have hin1:std.inb (std.ib .sub .i64 (std.len Int ys) 1) (std.len Int ys):=by
  rw [hks,s_inb,s_len]; omega
 have hsub:std.ib .sub .i64 (std.len Int us) kk=(m:Int):=by
  rw [s_sub,s_len,w64 (by omega) (by omega)]; omega
 have hmk:std.rng 0 (std.ib .sub .i64 (std.len Int us) kk) (std.ib .sub .i64 (std.len Int us) kk)/\std.fits (std.ib .sub .i64 (std.len Int us) kk) 4:=by
  rw [hsub,s_rng,s_fits]; omega
 have hsub1:std.ib .sub .i64 (std.ib .sub .i64 (std.len Int us) kk) 1=i0:=by
  rw [hsub,s_sub,w64 (by omega) (by omega),hi0]
 have hrep:std.rep Int (std.ib .sub .i64 (std.len Int us) kk) 0=q0:=by
  rw [hsub,s_rep,Int.toNat_natCast,hq0]
 obtain ⟨A,hA⟩:∃ x:Int,x=(a:Int)*((2 ^ n:Nat):Int):=⟨_,rfl⟩
 rw [<-hA] at hQ
 simp only [<-hA] at hfin
 have hkw:kk=ws.length:=by omega
 have hvw:vs.take ws.length=ws:=by rw [<-hwl]; exact hwt
 have hub:us.length<=1099511627776:=by omega
 have hk2:2<=ws.length:=by omega
 have hmL:m+ws.length=xs.length+1:=by omega
 clear hi0 hq0 hA hwse htt hl D h
 cbv
 refine CallTo.con hP hE hc (by subst hE; exact ⟨Sm.of hlx,Sm.of hly,trivial⟩) ?_
 cbv
 refine fork.mk ?_ ?_
 ·intro h1
  exfalso
  subst hE
  have h:std.ic .lss c 0=true:=h1
  simp at h
  omega
 ·intro h1
  cbv
  refine fork.mk ?_ ?_
  ·intro h2
   exfalso
   subst hE
   have h:std.ic .eql (std.len Int ys) 1=true:=h2
   simp at h
   omega
  ·intro h2
   cbv
   refine ⟨by subst hE; exact hin1,?_⟩
   cbv
   refine CallTo.con hP hE hz (by subst hE; exact ⟨congrArg (Value.int .u32) hgt,trivial⟩) ?_
   cbv
   refine CallTo.con hP hE hsx (by subst hE; exact ⟨Sm.of hlx,rfl,trivial⟩) ?_
   cbv
   refine CallTo.con hP hE hsy (by subst hE; exact ⟨Sm.of hly,rfl,trivial⟩) ?_
   cbv
   refine CallTo.con hP hE htr (by subst hE; exact ⟨Sm.of hlv,trivial⟩) ?_
   cbv
   refine ⟨by subst hE; exact hmk,?_⟩
   cbv
   refine LoopTo.by (ι:=Int × List Int × List Int) (fun x=>[(12,.v (.int .i64 x.1))]) (fun x=>[(2,.row true 195 cU x.2.1),(4,.row true 195 cU x.2.2)]) (fun x=>QInv A (val ws) ws m (xs.length+1) x.1 x.2.1 x.2.2) (fun x=>(x.1+1).toNat) (i0,us,q0) [] hQ ?_ ?_
   ·cbv
    subst hE
    and_intros
    all_goals first
     | exact Sm.of hrep
     | exact vi hsub1
     | (simp; done)
   ·rintro ⟨i,u,q⟩ hi
    have hi:QInv A (val ws) ws m (xs.length+1) i u q:=hi
    cbv
    refine fork.mk ?_ ?_
    ·intro h3
     have hge:0<=i:=by
      subst hE
      have h:std.ic .geq i 0=true:=h3
      simpa using h
     have S:=hi.ds hge hwok hk2 hwtop rfl hmL
     have hlt:=hi.i1
     have hul':=hi.ulen
     have F:=DF.mk' (kk:=kk) S hkw (hul.trans hul'.symm) hvw hub
     refine exVar (dTop ws u i / dV1 ws) ?_; intro g0 eg0
     refine exVar (dTop ws u i % dV1 ws) ?_; intro r0 er0
     have hI:GInv ws u i g0 r0:=by rw [eg0,er0]; exact S.first
     have hg0:std.ib .quo .u64 (std.ib .or .u64 (std.ib .shl .u64 (std.cv .u64 (std.get Int u (std.ib .add .i64 i kk) 0)) 32) (std.cv .u64 (std.get Int u (std.ib .sub .i64 (std.ib .add .i64 i kk) 1) 0))) (std.cv .u64 (std.get Int vs (std.ib .sub .i64 kk 1) 0))=g0:=(S.quo F).trans eg0.symm
     have hr0:std.ib .rem .u64 (std.ib .or .u64 (std.ib .shl .u64 (std.cv .u64 (std.get Int u (std.ib .add .i64 i kk) 0)) 32) (std.cv .u64 (std.get Int u (std.ib .sub .i64 (std.ib .add .i64 i kk) 1) 0))) (std.cv .u64 (std.get Int vs (std.ib .sub .i64 kk 1) 0))=r0:=(S.rem F).trans er0.symm
     have hnz:std.nz .quo (std.cv .u64 (std.get Int vs (std.ib .sub .i64 kk 1) 0)):=S.nzq F
     have hnz2:std.nz .rem (std.cv .u64 (std.get Int vs (std.ib .sub .i64 kk 1) 0)):=S.nzr F
     cbv
     iterate 7 (refine Need.mk ?_ ?_; (focus (subst hE; first | exact F.n1 | exact F.n2 | exact F.n4 | exact hnz | exact hnz2 | (simp; done))); cbv)
     refine LoopTo.byQ (ι:=Int × Int) (κ:=Int) (fun x=>[(9,.v (.int .u64 x.1)),(10,.v (.int .u64 x.2))]) (fun _=>[]) (fun x=>[(9,.v (.int .u64 x))]) (fun _=>[]) (fun x=>GInv ws u i x.1 x.2) (fun x=>GEnd ws u i x) (fun x=>x.1.toNat) (g0,r0) [] 0 hI ?_ ?_ ?_
     ·cbv
      subst hE
      and_intros
      all_goals first
       | exact congrArg (fun x=>AV.v (Value.int .u64 x)) hg0
       | exact congrArg (fun x=>AV.v (Value.int .u64 x)) hr0
       | (simp; done)
     ·rintro ⟨g,r⟩ hG
      have hG:GInv ws u i g r:=hG
      have B:=hG.big
      cbv
      refine ⟨by subst hE; simp,?_⟩
      cbv
      refine fork.mk ?_ ?_
      ·intro c1
       have c1':4294967296<=g:=by
        subst hE
        have h:std.ic .gtr (std.ib .shr .u64 g 32) 0=true:=c1
        rw [B.1] at h
        simpa using h
       refine exVar (g - 1) ?_; intro g' hg'
       refine exVar (r+dV1 ws) ?_; intro r' hr'
       have H:GInv ws u i g' r':=by
        rw [hg',hr']
        exact hG.down S (Or.inl c1')
       have gb:=hG.g0
       have hgs:std.ib .sub .u64 g 1=g':=by
        rw [s_sub,<-hg',wu64 H.g0 H.g1]
       have hrs:std.ib .add .u64 r (std.cv .u64 (std.get Int vs (std.ib .sub .i64 kk 1) 0))=r':=by
        rw [F.v1,s_add,<-hr',wu64 H.r0 H.r1]
       have B':=H.big
       have hmu:g'.toNat < g.toNat:=by have:=H.g0; omega
       cbv
       refine ⟨by subst hE; exact F.n4,?_⟩
       cbv
       refine ⟨by subst hE; simp,?_⟩
       cbv
       refine fork.mk ?_ ?_
       ·intro c4
        have c4':4294967296<=r':=by
         subst hE
         have h:std.ic .gtr (std.ib .shr .u64 (std.ib .add .u64 r (std.cv .u64 (std.get Int vs (std.ib .sub .i64 kk 1) 0))) 32) 0=true:=c4
         rw [hrs,B'.2.2.1] at h
         simpa using h
        cbv
        refine ⟨by subst hE; simp,?_⟩
        cbv
        refine fork.mk ?_ ?_
        ·intro c5
         have c5':g' < 4294967296:=by
          subst hE
          have h:std.ic .eql (std.ib .shr .u64 (std.ib .sub .u64 g 1) 32) 0=true:=c5
          rw [hgs,B'.2.1] at h
          simpa using h
         have Q:=H.stop S c5' (Or.inl c4')
         cbv
         refine ⟨g',[],Q,?_⟩
         cbv
         subst hE
         and_intros
         all_goals first
          | exact congrArg (fun x=>AV.v (Value.int .u64 x)) hgs
          | (simp; done)
        ·intro c5
         cbv
         refine ⟨(g',r'),[],H,hmu,?_⟩
         cbv
         subst hE
         and_intros
         all_goals first
          | exact congrArg (fun x=>AV.v (Value.int .u64 x)) hgs
          | exact congrArg (fun x=>AV.v (Value.int .u64 x)) hrs
          | (simp; done)
       ·intro c4
        cbv
        refine ⟨(g',r'),[],H,hmu,?_⟩
        cbv
        subst hE
        and_intros
        all_goals first
         | exact congrArg (fun x=>AV.v (Value.int .u64 x)) hgs
         | exact congrArg (fun x=>AV.v (Value.int .u64 x)) hrs
         | (simp; done)
      ·intro c1
       have c1':g < 4294967296:=by
        subst hE
        have h:std.ic .gtr (std.ib .shr .u64 g 32) 0=false:=c1
        rw [B.1] at h
        simpa using h
       cbv
       refine ⟨by subst hE; simp,?_⟩
       cbv
       refine fork.mk ?_ ?_
       ·intro c2
        have c2':r < 4294967296:=by
         subst hE
         have h:std.ic .eql (std.ib .shr .u64 r 32) 0=true:=c2
         rw [B.2.2.2] at h
         simpa using h
        have hcmp:=hG.cmp S F c1' c2'
        cbv
        refine ⟨by subst hE; exact F.n5,?_⟩
        cbv
        refine ⟨by subst hE; simp,?_⟩
        cbv
        refine ⟨by subst hE; exact F.n3,?_⟩
        cbv
        refine fork.mk ?_ ?_
        ·intro c3
         have c3':r*4294967296+dU2 ws u i < g*dV2 ws:=by
          subst hE
          exact of_decide_eq_true (hcmp.symm.trans c3)
         refine exVar (g - 1) ?_; intro g' hg'
         refine exVar (r+dV1 ws) ?_; intro r' hr'
         have H:GInv ws u i g' r':=by
          rw [hg',hr']
          exact hG.down S (Or.inr c3')
         have gb:=hG.g0
         have hgs:std.ib .sub .u64 g 1=g':=by
          rw [s_sub,<-hg',wu64 H.g0 H.g1]
         have hrs:std.ib .add .u64 r (std.cv .u64 (std.get Int vs (std.ib .sub .i64 kk 1) 0))=r':=by
          rw [F.v1,s_add,<-hr',wu64 H.r0 H.r1]
         have B':=H.big
         have hmu:g'.toNat < g.toNat:=by have:=H.g0; omega
         cbv
         refine ⟨by subst hE; exact F.n4,?_⟩
         cbv
         refine ⟨by subst hE; simp,?_⟩
         cbv
         refine fork.mk ?_ ?_
         ·intro c4
          have c4':4294967296<=r':=by
           subst hE
           have h:std.ic .gtr (std.ib .shr .u64 (std.ib .add .u64 r (std.cv .u64 (std.get Int vs (std.ib .sub .i64 kk 1) 0))) 32) 0=true:=c4
           rw [hrs,B'.2.2.1] at h
           simpa using h
          cbv
          refine ⟨by subst hE; simp,?_⟩
          cbv
          refine fork.mk ?_ ?_
          ·intro c5
           have c5':g' < 4294967296:=by
            subst hE
            have h:std.ic .eql (std.ib .shr .u64 (std.ib .sub .u64 g 1) 32) 0=true:=c5
            rw [hgs,B'.2.1] at h
            simpa using h
           have Q:=H.stop S c5' (Or.inl c4')
           cbv
           refine ⟨g',[],Q,?_⟩
           cbv
           subst hE
           and_intros
           all_goals first
            | exact congrArg (fun x=>AV.v (Value.int .u64 x)) hgs
            | (simp; done)
          ·intro c5
           cbv
           refine ⟨(g',r'),[],H,hmu,?_⟩
           cbv
           subst hE
           and_intros
           all_goals first
            | exact congrArg (fun x=>AV.v (Value.int .u64 x)) hgs
            | exact congrArg (fun x=>AV.v (Value.int .u64 x)) hrs
            | (simp; done)
         ·intro c4
          cbv
          refine ⟨(g',r'),[],H,hmu,?_⟩
          cbv
          subst hE
          and_intros
          all_goals first
           | exact congrArg (fun x=>AV.v (Value.int .u64 x)) hgs
           | exact congrArg (fun x=>AV.v (Value.int .u64 x)) hrs
           | (simp; done)
        ·intro c3
         have c3':g*dV2 ws<=r*4294967296+dU2 ws u i:=by
          subst hE
          exact Int.not_lt.1 (of_decide_eq_false (hcmp.symm.trans c3))
         have Q:=hG.stop S c1' (Or.inr c3')
         cbv
         refine ⟨g,[],Q,?_⟩
         cbv
         subst hE
         and_intros
         all_goals first
          | (simp; done)
       ·intro c2
        have c2':4294967296<=r:=by
         subst hE
         have h:std.ic .eql (std.ib .shr .u64 r 32) 0=false:=c2
         rw [B.2.2.2] at h
         simpa using h
        have Q:=hG.stop S c1' (Or.inl c2')
        cbv
        refine ⟨g,[],Q,?_⟩
        cbv
        subst hE
        and_intros
        all_goals first
         | (simp; done)
     ·intro g hG
      have hG:GEnd ws u i g:=hG
      have hle2:=hul.trans hul'.symm
      refine exVar (0:Int) ?_
      intro z0 hz0
      have hBz:=BInv.zero (g:=g) S hz0
      cbv
      refine LoopTo.by (ι:=Int × Int × Int × List Int) (fun x=>[(103,.v (.int .i64 x.1)),(11,.v (.int .u64 x.2.1)),(12,.v (.int .u32 x.2.2.1))]) (fun x=>[(2,.row true 195 cU x.2.2.2)]) (fun x=>BInv ws u i g x.1 x.2.1 x.2.2.1 x.2.2.2) (fun x=>((ws.length:Int) - x.1).toNat) (z0,z0,z0,u) [] hBz ?_ ?_
      ·cbv
       subst hE
       and_intros
       all_goals first
        | exact congrArg (Value.int _) hz0.symm
        | (simp; done)
      ·rintro ⟨j,c,b,o⟩ hB
       have hB:BInv ws u i g j c b o:=hB
       cbv
       refine fork.mk ?_ ?_
       ·intro c4
        have hj:j < kk:=by
         subst hE
         have h:std.ic .lss j kk=true:=c4
         simpa using h
        refine Exists.elim (BInv.run S hkw hle2 hvw hub hG hB hj) ?_
        intro x R0
        refine Exists.elim R0 ?_
        intro y R1
        refine Exists.elim R1 ?_
        intro d2 R2
        refine Exists.elim R2 ?_
        intro b' R3
        refine Exists.elim R3 ?_
        intro c' R4
        refine Exists.elim R4 ?_
        intro j' R5
        refine Exists.elim R5 ?_
        intro o' R
        cbv
        refine ⟨by subst hE; exact R.n1,?_⟩
        cbv
        refine ⟨by subst hE; exact R.n2,?_⟩
        cbv
        refine CallTo.con hP hE R.con (by subst hE; exact ⟨congrArg (Value.int .u32) R.ex,congrArg (Value.int .u32) R.ey,rfl,trivial⟩) ?_
        cbv
        refine ⟨by subst hE; exact R.n2,?_⟩
        cbv
        refine ⟨by subst hE; simp,?_⟩
        cbv
        refine ⟨(j',c',b',o'),[],R.inv,R.mu,?_⟩
        cbv
        subst hE
        and_intros
        all_goals first
         | exact Sm.of R.eo
         | exact vi R.ej
         | exact congrArg (fun x=>AV.v (Value.int .u64 x)) R.ec
         | (simp; done)
       ·intro c4
        have hj:¬ j < kk:=by
         subst hE
         have h:std.ic .lss j kk=false:=c4
         simpa using h
        refine Exists.elim (BInv.runL S hkw hle2 hub hG hB hj) ?_
        intro x R0
        refine Exists.elim R0 ?_
        intro d2 R1
        refine Exists.elim R1 ?_
        intro b' R2
        refine Exists.elim R2 ?_
        intro o' R
        cbv
        refine ⟨by subst hE; exact R.n1,?_⟩
        cbv
        refine CallTo.con hP hE R.con (by subst hE; exact ⟨congrArg (Value.int .u32) R.ex,congrArg (Value.int .u32) R.ec,rfl,trivial⟩) ?_
        cbv
        refine ⟨by subst hE; exact R.n1,?_⟩
        cbv
        refine fork.mk ?_ ?_
        ·intro c5
         have hb0:b'=0:=by
          subst hE
          have h:std.ic .eql b' 0=true:=c5
          simpa using h
         refine exVar (i - 1) ?_
         intro i2 hi2
         refine exVar (q.set i.toNat g) ?_
         intro q2 hq2
         have HQ:QInv A (val ws) ws m (xs.length+1) i2 o' q2:=by
          rw [hi2,hq2]
          exact hi.step hge S rfl (R.zero hb0)
         have hset:std.set Int q i (std.cv .u32 g)=q2:=by rw [R.eg,s_set,hq2]
         have hii:std.ib .sub .i64 i 1=i2:=by
          have:=hi.i1
          rw [s_sub,w64 (by omega) (by omega),hi2]
         have hinq:std.inb i (std.ib .sub .i64 (std.len Int us) kk):=by
          have h1:=hi.i1
          have h2:std.ib .sub .i64 (std.len Int us) kk=(m:Int):=hsub
          rw [h2,s_inb]; omega
         have hmu:(i2+1).toNat < (i+1).toNat:=by omega
         cbv
         refine ⟨by subst hE; exact hinq,?_⟩
         cbv
         refine ⟨(i2,o',q2),[],HQ,hmu,?_⟩
         cbv
         subst hE
         and_intros
         all_goals first
          | exact Sm.of R.eo
          | exact Sm.of hset
          | exact vi hii
          | (simp; done)
        ·intro c5
         have hb0:b' ≠ 0:=by
          subst hE
          have h:std.ic .eql b' 0=false:=c5
          simpa using h
         have T:=R.one hb0
         have hAz:=AInv.zero (vs:=ws) (i:=i) T.1 hz0
         have hseto:=R.eo
         cbv
         refine LoopTo.by (ι:=Int × Int × List Int) (fun x=>[(159,.v (.int .i64 x.1)),(15,.v (.int .u32 x.2.1))]) (fun x=>[(2,.row true 195 cU x.2.2)]) (fun x=>AInv ws o' i x.1 x.2.1 x.2.2) (fun x=>((ws.length:Int) - x.1).toNat) (z0,z0,o') [] hAz ?_ ?_
         ·cbv
          subst hE
          and_intros
          all_goals first
           | exact congrArg (Value.int _) hz0.symm
           | exact Sm.of hseto
           | (simp; done)
         ·rintro ⟨j3,s3,o3⟩ hA3
          have hA3:AInv ws o' i j3 s3 o3:=hA3
          cbv
          refine fork.mk ?_ ?_
          ·intro c6
           have hj3:j3 < kk:=by
            subst hE
            have h:std.ic .lss j3 kk=true:=c6
            simpa using h
           refine Exists.elim (AInv.run S hkw hle2 hvw hub T.2.1 hA3 hj3) ?_
           intro x3 Q0
           refine Exists.elim Q0 ?_
           intro y3 Q1
           refine Exists.elim Q1 ?_
           intro d3 Q2
           refine Exists.elim Q2 ?_
           intro s' Q3
           refine Exists.elim Q3 ?_
           intro j' Q4
           refine Exists.elim Q4 ?_
           intro o4 Q
           cbv
           refine ⟨by subst hE; exact Q.n1,?_⟩
           cbv
           refine ⟨by subst hE; exact Q.n2,?_⟩
           cbv
           refine CallTo.con hP hE Q.con (by subst hE; exact ⟨congrArg (Value.int .u32) Q.ex,congrArg (Value.int .u32) Q.ey,rfl,trivial⟩) ?_
           cbv
           refine ⟨by subst hE; exact Q.n2,?_⟩
           cbv
           refine ⟨(j',s',o4),[],Q.inv,Q.mu,?_⟩
           cbv
           subst hE
           and_intros
           all_goals first
            | exact Sm.of Q.eo
            | exact vi Q.ej
            | (simp; done)
          ·intro c6
           have hj3:¬ j3 < kk:=by
            subst hE
            have h:std.ic .lss j3 kk=false:=c6
            simpa using h
           refine Exists.elim (AInv.runE S hkw hle2 hub hG T hA3 hj3) ?_
           intro g' Q0
           refine Exists.elim Q0 ?_
           intro o4 Q
           have hset4:=Q.eo
           cbv
           refine ⟨by subst hE; exact Q.n1,?_⟩
           cbv
           refine ⟨by subst hE; exact Q.n1,?_⟩
           refine exVar (i - 1) ?_
           intro i2 hi2
           refine exVar (q.set i.toNat g') ?_
           intro q2 hq2
           have HQ:QInv A (val ws) ws m (xs.length+1) i2 o4 q2:=by
            rw [hi2,hq2]
            exact hi.step hge S rfl (Q.fin)
           have hset:std.set Int q i (std.cv .u32 (std.ib .sub .u64 g 1))=q2:=by rw [Q.eg,s_set,hq2]
           have hii:std.ib .sub .i64 i 1=i2:=by
            have:=hi.i1
            rw [s_sub,w64 (by omega) (by omega),hi2]
           have hinq:std.inb i (std.ib .sub .i64 (std.len Int us) kk):=by
            have h1:=hi.i1
            have h2:std.ib .sub .i64 (std.len Int us) kk=(m:Int):=hsub
            rw [h2,s_inb]; omega
           have hmu:(i2+1).toNat < (i+1).toNat:=by omega
           cbv
           refine ⟨by subst hE; exact hinq,?_⟩
           cbv
           refine ⟨(i2,o4,q2),[],HQ,hmu,?_⟩
           cbv
           subst hE
           and_intros
           all_goals first
            | exact Sm.of hset4
            | exact Sm.of hset
            | exact vi hii
            | (simp; done)
    ·intro h3
     have he:i = -1:=by
      subst hE
      have h:std.ic .geq i 0=false:=h3
      have h:¬ 0<=i:=by simpa using h
      have:=hi.i0
      omega
     have hv:=hfin u q i hi he
     have hq1:=trim_con q (by rw [hi.qlen]; omega)
     have hu1:=trim_con u (by rw [hi.ulen]; omega)
     have htq:=take_tlen hi.qok
     have htu:=take_tlen hi.uok
     refine exVar (tlen q) ?_
     intro nq hnq
     refine exVar (tlen u) ?_
     intro nu hnu
     refine exVar (u.take nu) ?_
     intro w hw
     have hq2:Con Tryz.prog 278 [.ro cU q] (.arg 0 nq):=by rw [hnq]; exact hq1
     have hu2:Con Tryz.prog 278 [.ro cU u] (.arg 0 nu):=by rw [hnu]; exact hu1
     have hwv:w=lb (a % d*2 ^ n):=by rw [hw,hnu,htu,hv.2,Int.toNat_natCast]
     have hus:=unshift_core w rr n (by rw [hwv]; exact lb_ok _) (by rw [hw,List.length_take,hi.ulen]; omega) hn (by rw [hwv,val_lb,Int.toNat_natCast,Nat.mul_div_cancel _ (Nat.pow_pos (by decide)),hrr])
     have hus2:Con Tryz.prog 294 [.ro cU w,.v (.int .i64 nn)] (.own 195 cU rr):=by rw [hnn]; exact hus
     have rq:std.tk Int q (std.ib .sub .i64 (std.len Int us) kk)=q:=by
      have h2:std.ib .sub .i64 (std.len Int us) kk=(m:Int):=hsub
      rw [h2,s_tk,Int.toNat_natCast,List.take_of_length_le (by rw [hi.qlen]; exact Nat.le_refl _)]
     have ru:std.tk Int u (std.len Int us)=u:=by
      rw [s_tk,s_len,List.take_of_length_le (by rw [hi.ulen,hul]; omega)]
     have rw':std.tk Int u nu=w:=by rw [s_tk,Int.toNat_natCast,hw]
     have fq:std.tk Int q nq=qq:=by rw [s_tk,Int.toNat_natCast,hnq,htq,hv.1,Int.toNat_natCast,hqq]
     have fr:std.tk Int rr (std.len Int rr)=rr:=by rw [s_tk,s_len,List.take_of_length_le (by omega)]
     cbv
     refine CallTo.con hP hE hq2 (by subst hE; exact ⟨Sm.of rq,trivial⟩) ?_
     cbv
     refine CallTo.con hP hE hu2 (by subst hE; exact ⟨Sm.of ru,trivial⟩) ?_
     cbv
     refine CallTo.con hP hE hus2 (by subst hE; exact ⟨Sm.of rw',rfl,trivial⟩) ?_
     cbv
     subst hE
     exact ⟨Sm.of fq,Sm.of fr,trivial⟩
end Go.Proofs.YtkipmmiiackdaaaGreat.Sx
