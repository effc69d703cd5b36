/- Part 27 of what the statement needs: an executor of Go texts, arithmetic, and contracts of the functions that are called. -/
import Derived.Test.YtkipmmiiackdaaaGreatCa19
import Derived.Test.YtkipmmiiackdaaaGreatCa20
import Derived.Test.YtkipmmiiackdaaaGreatCa26
set_option linter.unusedSimpArgs false
set_option linter.unusedVariables false
set_option maxHeartbeats 8000000
set_option maxRecDepth 100000
namespace Go.Proofs.YtkipmmiiackdaaaGreat.Sx
open Env (std)
theorem zV_zero:zV 0=.agg #[.bool false,.string ⟨⟨[]⟩⟩]:=by
 have h:Zp 0 false ⟨⟨[]⟩⟩:=⟨rfl,(mg_nil.2 rfl).symm⟩
 exact h.v
theorem rdiv_con (na:Bool) (ma mb:ByteArray) (ha:ma.size<=536870912) (hb:mb.size<=536870912) (h0:0 < bv mb) (hd:bv mb ∣ bv ma):Con Tryz.prog 289 [.v (zR na ma),.v (zR false mb)] (.v (.tuple #[zV (zval na ma / (bv mb:Nat)),zV 0,.int .i64 0])):=by
 have hca:=rcanon_con na ma (by omega)
 have hcb:=rcanon_con false mb (by omega)
 obtain ⟨Q,hQ⟩:∃ Q:Nat,bv ma=bv mb*Q:=hd
 obtain ⟨sa,xa,za⟩:=Zp.ex (zval na ma)
 obtain ⟨sb,xb,zb⟩:=Zp.ex (zval false mb)
 have hzb:zval false mb=(bv mb:Nat):=rfl
 have hdivz:zval na ma / (bv mb:Nat)=if sa=true then -(Q:Int) else (Q:Int):=by
  have hb0:((bv mb:Nat):Int) ≠ 0:=by omega
  have e1:=za.s
  unfold zval at e1 ⊢
  have hm:(((bv mb*Q:Nat)):Int)=(bv mb:Int)*Q:=Int.natCast_mul _ _
  rw [hQ] at e1 ⊢
  rw [hm] at e1 ⊢
  cases na with
  | false=>
   have:¬ ((bv mb:Int)*Q < 0):=by
    have:=Int.mul_nonneg (Int.natCast_nonneg (bv mb)) (Int.natCast_nonneg Q)
    omega
   simp [this] at e1
   rw [e1]
   simp [Int.mul_ediv_cancel_left _ hb0]
  | true=>
   simp at e1
   by_cases hq:Q=0
   ·subst hq; simp
   ·have hpos:(0:Int) < (bv mb:Int)*Q:=Int.mul_pos (by omega) (by omega)
    have:sa=true:=by rw [e1]; simp; exact hpos
    simp [this]
    rw [<-Int.mul_neg,Int.mul_ediv_cancel_left _ hb0]
 obtain ⟨sr,xr,zr⟩:=Zp.ex (zval na ma / (bv mb:Nat))
 have qa:=za.size
 have qb:=zb.size
 rw [za.v] at hca
 rw [zb.v] at hcb
 rw [zr.v,zV_zero]
 have hsb:sb=false:=by rw [zb.s,hzb]; simp
 have hxb:xb=mg (bv mb):=by rw [zb.m,hzb]; rfl
 have hbxa:bv xa=bv ma:=by rw [za.bv,zval_abs]
 have hbxb:bv xb=bv mb:=by rw [hxb,bv_mg]
 have hne:¬ xb=⟨⟨[]⟩⟩:=by rw [hxb,mg_nil]; omega
 have hxr:xr=mg Q:=by
  rw [zr.m,hdivz]; congr 1; split<;>omega
 have hdm:=divMag_con xa (bv mb) 536870912 (by omega) (by rw [<-hxb]; omega) (Nat.le_refl _) h0
 rw [hbxa,hQ,Nat.mul_div_cancel_left Q h0,Nat.mul_mod_right,<-hxr,<-hxb,mg_nil.2 rfl] at hdm
 have hof0:=rof_con 0 (by decide) (by decide)
 rw [zV_zero] at hof0
 have hsmall:xa.size < 8->xb.size < 8->∃ u v w:Int,Con Tryz.prog 303 [.v (.string xa)] (.v (.int .i64 u))/\Con Tryz.prog 303 [.v (.string xb)] (.v (.int .i64 v))/\Con Tryz.prog 160 [.v (.int .i64 w)] (.v (.agg #[.bool false,.string xr]))/\std.ib .quo .i64 u v=w/\std.ib .rem .i64 u v=0/\std.nz .quo v/\std.nz .rem v:=by
  intro h1 h2
  have s1:=rsmall_con xa (by omega)
  have s2:=rsmall_con xb (by omega)
  rw [hbxa] at s1
  rw [hbxb] at s2
  have b1:=zval_small false xa (by omega)
  have b2:zval false xa=(bv ma:Nat):=by show ((bv xa:Nat):Int)=_; rw [hbxa]
  rw [b2] at b1
  have hQle:Q<=bv ma:=by rw [hQ]; exact Nat.le_mul_of_pos_left Q h0
  have h3:=rof_con (Q:Int) (by omega) (by omega)
  have zq:Zp (Q:Int) false xr:=⟨by simp,by rw [hxr]; rfl⟩
  rw [zq.v] at h3
  refine ⟨_,_,(Q:Int),s1,s2,h3,?_,?_,?_,?_⟩
  ·rw [s_quo,hQ,Int.natCast_mul,Int.mul_tdiv_cancel_left _ (by omega),w64 (by omega) (by omega)]
  ·rw [s_rem,hQ,Int.natCast_mul,Int.mul_tmod_right]
  ·show ((bv mb:Nat):Int) ≠ 0; omega
  ·show ((bv mb:Nat):Int) ≠ 0; omega
 have hQle:Q<=bv ma:=by rw [hQ]; exact Nat.le_mul_of_pos_left Q h0
 have hxs:xr.size<=ma.size:=by rw [hxr]; exact mg_size_le (Nat.lt_of_le_of_lt hQle (bv_lt ma))
 have hneg:=rneg_con false xr (by omega)
 have hneg2:sa=true->Con Tryz.prog 300 [.v (.agg #[.bool false,.string xr])] (.v (.agg #[.bool sr,.string xr])):=by
  intro h
  have e : - zval false xr=zval na ma / (bv mb:Nat):=by
   rw [hdivz,if_pos h]
   show -((bv xr:Nat):Int)=_
   rw [hxr,bv_mg]
  rw [e,zr.v] at hneg
  exact hneg
 have hpos:sa=false->sr=false:=by
  intro h
  rw [zr.s,hdivz,if_neg (by rw [h]; decide)]; simp
 subst hsb
 have hsq0:std.sq xb ⟨⟨[]⟩⟩=false:=s_sqf xb hne
 have hsq1:std.bn (std.sq ⟨⟨[]⟩⟩ ⟨⟨[]⟩⟩)=false:=by rw [s_sqn _ _ rfl]; simp
 clear hneg hdivz za zb zr hxb hxr hbxa hbxb hQ hzb hne
 unfold zR at hca hcb ⊢
 refine Con.of ttOk mixed Tryz.func289 { ord:=[(1,[0,2,1,3,4,5]),(6,[0,1,3,4,2,5,6,7]),(7,[0,1,2,4,5,6,3,7,8,9]),(13,[0,1,2,3]),(17,(.br 0 (.br 1 (.op 2 (.op 3 (.op 4 .nil))) (.br 2 (.br 1 (.op 3 (.op 4 .nil)) .stop) .stop)) (.br 1 (.br 0 (.op 2 (.op 3 (.op 4 .nil))) .stop) .stop)))] } .nil 0 (by kernel_rfl) (fun P' E hP hE=>?_)
 cbv
 refine CallTo.w hP hE hca ⟨rfl,trivial⟩ ?_
 cbv
 refine CallTo.w hP hE hcb ⟨rfl,trivial⟩ ?_
 cbv
 refine fork.na (by subst hE; exact hsq0) ?_
 cbv
 refine fork.mk ?_ ?_
 ·intro g1
  have g1:xa.size < 8:=of_decide_eq_true (lt8 hE g1).symm
  cbv
  refine fork.mk ?_ ?_
  ·intro g2
   have g2:xb.size < 8:=of_decide_eq_true (lt8 hE g2).symm
   refine Exists.elim (hsmall g1 g2) ?_
   intro u hu
   refine Exists.elim hu ?_
   intro v hv
   refine Exists.elim hv ?_
   intro w hw
   have w1:=hw.1
   have w2:=hw.2.1
   have w3:=hw.2.2.1
   have w4:=hw.2.2.2.1
   have w5:=hw.2.2.2.2.1
   have w6:=hw.2.2.2.2.2.1
   have w7:=hw.2.2.2.2.2.2
   clear hu hv hw
   cbv
   refine CallTo.w hP hE w1 ⟨rfl,trivial⟩ ?_
   cbv
   refine CallTo.w hP hE w2 ⟨rfl,trivial⟩ ?_
   cbv
   repeat (refine Need.mk (by subst hE; first | exact w6 | exact w7 | (simp; done)) ?_; cbv)
   refine CallTo.con hP hE w3 (by subst hE; exact ⟨congrArg (Value.int .i64) w4,trivial⟩) ?_
   cbv
   repeat (refine Need.mk (by subst hE; first | exact w6 | exact w7 | (simp; done)) ?_; cbv)
   refine CallTo.con hP hE hof0 (by subst hE; exact ⟨congrArg (Value.int .i64) w5,trivial⟩) ?_
   cbv
   refine fork.mk ?_ ?_
   ·intro g3
    have g3:sa=true:=by
     subst hE
     have h:(!(sa == false))=true:=g3
     cases sa<;>simp_all
    have hneg2:=hneg2 g3
    cbv
    refine CallTo.w hP hE hneg2 ⟨rfl,trivial⟩ ?_
    cbv
    refine fork.na (by subst hE; exact hsq1) ?_
    cbv
    refine fork.na rfl ?_
    cbv
    refine DrawTo.run ?_
    cbv
    repeat' first
     | exact True.intro
     | (refine Both.mk ?_ ?_<;>cbv)
     | (simp only [and_self]; done)
   ·intro g3
    have g3:sa=false:=by
     subst hE
     have h:(!(sa == false))=false:=g3
     cases sa<;>simp_all
    have hpos:=hpos g3
    subst hpos
    cbv
    refine fork.na rfl ?_
    cbv
    refine DrawTo.run ?_
    cbv
    repeat' first
     | exact True.intro
     | (refine Both.mk ?_ ?_<;>cbv)
     | (simp only [and_self]; done)
  ·intro g2
   cbv
   refine CallTo.w hP hE hdm ⟨rfl,rfl,trivial⟩ ?_
   cbv
   refine fork.mk ?_ ?_
   ·intro g3
    have g3:sa=true:=by
     subst hE
     have h:(!(sa == false))=true:=g3
     cases sa<;>simp_all
    have hneg2:=hneg2 g3
    cbv
    refine CallTo.w hP hE hneg2 ⟨rfl,trivial⟩ ?_
    cbv
    refine fork.na (by subst hE; exact hsq1) ?_
    cbv
    refine fork.na rfl ?_
    cbv
    refine DrawTo.run ?_
    cbv
    repeat' first
     | exact True.intro
     | (refine Both.mk ?_ ?_<;>cbv)
     | (simp only [and_self]; done)
   ·intro g3
    have g3:sa=false:=by
     subst hE
     have h:(!(sa == false))=false:=g3
     cases sa<;>simp_all
    have hpos:=hpos g3
    subst hpos
    cbv
    refine fork.na rfl ?_
    cbv
    refine DrawTo.run ?_
    cbv
    repeat' first
     | exact True.intro
     | (refine Both.mk ?_ ?_<;>cbv)
     | (simp only [and_self]; done)
 ·intro g1
  cbv
  refine CallTo.w hP hE hdm ⟨rfl,rfl,trivial⟩ ?_
  cbv
  refine fork.mk ?_ ?_
  ·intro g3
   have g3:sa=true:=by
    subst hE
    have h:(!(sa == false))=true:=g3
    cases sa<;>simp_all
   have hneg2:=hneg2 g3
   cbv
   refine CallTo.w hP hE hneg2 ⟨rfl,trivial⟩ ?_
   cbv
   refine fork.na (by subst hE; exact hsq1) ?_
   cbv
   refine fork.na rfl ?_
   cbv
   refine DrawTo.run ?_
   cbv
   repeat' first
    | exact True.intro
    | (refine Both.mk ?_ ?_<;>cbv)
    | (simp only [and_self]; done)
  ·intro g3
   have g3:sa=false:=by
    subst hE
    have h:(!(sa == false))=false:=g3
    cases sa<;>simp_all
   have hpos:=hpos g3
   subst hpos
   cbv
   refine fork.na rfl ?_
   cbv
   refine DrawTo.run ?_
   cbv
   repeat' first
    | exact True.intro
    | (refine Both.mk ?_ ?_<;>cbv)
    | (simp only [and_self]; done)
theorem rnumber_con (s:ByteArray) (h:s.size<=7):Con Tryz.prog 314 [.v (.string s)] (.v (.int .i64 (bv s:Nat))):=by
 obtain ⟨r,hr⟩:∃ r:Int,r=(bv s:Nat):=⟨_,rfl⟩
 rw [<-hr]
 refine Con.of ttOk mixed Tryz.func314 {} .nil 0 (by kernel_rfl) (fun P' E hP hE=>?_)
 obtain ⟨i0,hi0⟩:∃ i:Int,i=0:=⟨_,rfl⟩
 have hz:WInv s i0 i0:=by subst hi0; exact ⟨by omega,by omega,rfl⟩
 have hfin:∀ i n:Int,WInv s i n->¬ i < s.size->n=r:=by
  intro i n q hi
  have q1:=q.i1
  have q0:=q.i0
  rw [q.v,List.take_of_length_le (by rw [<-dg_size]; omega),hr]; rfl
 cbv
 refine LoopTo.by (ι:=Int × Int) (fun x=>[(4,.v (.int .i64 x.1)),(3,.v (.int .i64 x.2))]) (fun x=>[]) (fun x=>WInv s x.1 x.2) (fun x=>((s.size:Int) - x.1).toNat) (i0,i0) [] hz ?_ ?_
 ·cbv
  subst hE
  and_intros
  all_goals first
   | exact congrArg (Value.int _) hi0.symm
   | (simp; done)
 ·rintro ⟨i,n⟩ hi
  have hi:WInv s i n:=hi
  have hi00:=hi.i0
  cbv
  refine fork.mk ?_ ?_
  ·intro h2
   have hlt:i < s.size:=by
    subst hE
    have h:std.ic .lss i (std.sz s)=true:=h2
    simpa using h
   have q:=hi.step h hlt
   have hb:=hi.bound
   have hb1:(256:Nat) ^ i.toNat<=256 ^ 6:=pow256_mono (by omega)
   have hb2:(256:Nat) ^ 6=281474976710656:=by decide
   have hd:((dg s).getD i.toNat 0).toNat < 256:=UInt8.toNat_lt _
   have q1:std.ib .add .i64 (std.ib .mul .i64 256 n) (std.cv .i64 (std.sa s i))=n*256+(((dg s).getD i.toNat 0).toNat:Int):=by
    rw [cv_sa,s_mul,s_add,w64 (n:=256*n) (by omega) (by omega),w64 (by omega) (by omega)]; omega
   refine exVar (n*256+(((dg s).getD i.toNat 0).toNat:Int)) ?_
   intro n' hn'
   refine exVar (i+1) ?_
   intro i' hi'
   have q2:WInv s i' n':=by rw [hn',hi']; exact q.2
   rw [<-hn'] at q1
   have hii:std.ib .add .i64 i 1=i':=by rw [s_add,w64 (by omega) (by omega),hi']
   have hin:std.inb i (std.sz s):=by rw [s_inb,s_sz]; exact ⟨hi00,hlt⟩
   have hmu:((s.size:Int) - i').toNat < ((s.size:Int) - i).toNat:=by omega
   clear hn' q hb hb1 hb2
   cbv
   repeat (refine Need.mk (by subst hE; first | exact hin | (simp; done)) ?_; cbv)
   refine ⟨(i',n'),[],q2,hmu,?_⟩
   cbv
   subst hE
   and_intros
   all_goals first
    | exact vi q1
    | exact vi hii
    | (simp; done)
  ·intro h2
   have hlt:¬ i < s.size:=by
    subst hE
    have h:std.ic .lss i (std.sz s)=false:=h2
    simpa using h
   have q:=hfin i n hi hlt
   cbv
   exact congrArg (Value.int .i64) q
theorem shr256 {N:Nat} {j:Int} (h0:0<=j) (h1:j<=6):std.ib .shr .i64 (N:Int) (8*j)=((N / 256 ^ j.toNat:Nat):Int):=by
 have:j=0\/j=1\/j=2\/j=3\/j=4\/j=5\/j=6:=by omega
 rcases this with rfl | rfl | rfl | rfl | rfl | rfl | rfl<;>(rw [s_shr]; exact Int.fdiv_eq_ediv_of_nonneg _ (by decide))
theorem mgl_nil {n:Nat}:mgl n=[] ↔ n=0:=by
 constructor
 ·intro h
  have:=congrArg dv h
  rwa [dv_mgl] at this
 ·intro h; rw [h,mgl_zero]
/-- The digits of N from weight 256 ^ (k / 8 + 1) on are written. -/
structure DgInv (N:Nat) (k l:Int) (o:List Int):Prop where
 ex:∃ j:Int,k=8*j /\ -1<=j/\j<=6/\l=(o.length:Int)/\by8 o=mgl (N / 256 ^ (j+1).toNat)
structure DgStep (N:Nat) (k l:Int) (o:List Int) (d:Int):Prop where
 rem:std.ib .rem .i64 (std.ib .shr .i64 (N:Int) k) 256=d
 cv:std.cv .u8 (std.ib .shr .i64 (N:Int) k)=d
 on:(0 < d\/0 < l)->DgInv N (k - 8) (l+1) (o++[d])
 off:¬ 0 < d->¬ 0 < l->DgInv N (k - 8) l o
 k1:k<=48
 len:l=(o.length:Int)
 l1:l<=100
theorem DgInv.step {N:Nat} {k l:Int} {o:List Int} (h:DgInv N k l o) (hN:N < 72057594037927936) (hk:0<=k):∃ d,DgStep N k l o d:=by
 obtain ⟨j,h1,h2,h3,h4,h5⟩:=h.ex
 have hj0:0<=j:=by omega
 have hol:o.length<=100:=by
  have e1:o.length=(by8 o).length:=by simp [by8]
  rw [e1,h5]
  have e2:=mg_size_le (n:=N / 256 ^ (j+1).toNat) (k:=7) (by
   have:(256:Nat) ^ 7=72057594037927936:=by decide
   exact Nat.lt_of_le_of_lt (Nat.div_le_self _ _) (by omega))
  rw [dg_size,dg_mg] at e2
  omega
 obtain ⟨D,hD⟩:∃ D,D=N / 256 ^ j.toNat:=⟨_,rfl⟩
 have hDD:D / 256=N / 256 ^ (j+1).toNat:=by
  have e:(j+1).toNat=j.toNat+1:=by omega
  rw [hD,e,Nat.pow_succ,Nat.div_div_eq_div_mul]
 have hshr:std.ib .shr .i64 (N:Int) k=(D:Int):=by rw [h1,shr256 hj0 h3,hD]
 have ej:(j - 1+1).toNat=j.toNat:=by congr 1; omega
 refine ⟨((D % 256:Nat):Int),?_,?_,?_,?_,by omega,h4,by omega⟩
 ·rw [hshr,s_rem,Int.natCast_emod]; exact Int.tmod_eq_emod_of_nonneg (by omega)
 ·rw [hshr,s_cv,IntKind.wrap_u8,Int.natCast_emod]; rfl
 ·intro hd
  have hD0:D ≠ 0:=by
   intro e
   rcases hd with hd | hd
   ·rw [e] at hd; simp at hd
   ·rw [e] at hDD
    rw [<-hDD,Nat.zero_div,mgl_zero] at h5
    have e1:o.length=(by8 o).length:=by simp [by8]
    rw [h5] at e1
    have e1:o.length=0:=e1
    omega
  refine ⟨j - 1,by omega,by omega,by omega,by rw [List.length_append]; simp; omega,?_⟩
  rw [ej,<-hD,mgl_pos hD0,hDD,<-h5,by8_app]
  rfl
 ·intro hd hl
  have hDm:D % 256=0:=by omega
  have ho:o=[]:=List.eq_nil_of_length_eq_zero (by omega)
  rw [ho] at h5
  have h6:=mgl_nil.1 (show mgl (N / 256 ^ (j+1).toNat)=[] from h5.symm)
  rw [<-hDD] at h6
  have h7:D=0:=by omega
  refine ⟨j - 1,by omega,by omega,by omega,h4,?_⟩
  rw [ej,<-hD,h7,mgl_zero,ho]; rfl
theorem DgInv.zero {N:Nat} (hN:N < 72057594037927936):DgInv N 48 0 []:=by
 refine ⟨6,by omega,by omega,by omega,rfl,?_⟩
 have e:(256:Nat) ^ ((6:Int)+1).toNat=72057594037927936:=by decide
 rw [e,Nat.div_eq_of_lt hN,mgl_zero]; rfl
theorem DgInv.last {N:Nat} {k l:Int} {o:List Int} (h:DgInv N k l o) (hk:¬ 0<=k):std.b2s Int (fun x=>[.int .u8 x]) (std.tk Int o l)=mg N:=by
 obtain ⟨j,h1,h2,h3,h4,h5⟩:=h.ex
 have hj:j = -1:=by omega
 subst hj
 have e:(256:Nat) ^ ((-1:Int)+1).toNat=1:=by decide
 rw [e,Nat.div_one] at h5
 rw [s_tk,List.take_of_length_le (by omega)]
 refine dg_ext ?_
 rw [dg_mg,<-h5]
 show (((o.flatMap fun x=>[Value.int .u8 x]).map byteOf).toArray.toList)=by8 o
 exact flat8 o
theorem rdigits_con (N:Nat) (h:N < 72057594037927936):Con Tryz.prog 315 [.v (.int .i64 N)] (.v (.string (mg N))):=by
 obtain ⟨res,hres⟩:∃ s,s=mg N:=⟨_,rfl⟩
 have hz:=DgInv.zero h
 have hlast:=fun k l o=>@DgInv.last N k l o
 have hstep:=fun k l o (q:DgInv N k l o)=>q.step h
 rw [<-hres] at hlast ⊢
 obtain ⟨n,hn⟩:∃ x:Int,x=N:=⟨_,rfl⟩
 have hrem:∀ {k l o d},DgStep N k l o d->std.ib .rem .i64 (std.ib .shr .i64 n k) 256=d/\std.cv .u8 (std.ib .shr .i64 n k)=d:=by
  intro k l o d q; rw [hn]; exact ⟨q.rem,q.cv⟩
 rw [<-hn]
 obtain ⟨k0,hk0⟩:∃ k:Int,k=48:=⟨_,rfl⟩
 obtain ⟨l0,hl0⟩:∃ l:Int,l=0:=⟨_,rfl⟩
 obtain ⟨b0,hb0⟩:∃ b:List Int,b=[]:=⟨_,rfl⟩
 rw [<-hk0,<-hl0,<-hb0] at hz
 clear hn hres
 refine Con.of ttOk mixed Tryz.func315 {} .nil 0 (by kernel_rfl) (fun P' E hP hE=>?_)
 cbv
 refine LoopTo.nil 3 5 (cInt .u8) (cInt_ok _) rfl ?_
 refine LoopTo.by (ι:=Int × Int × List Int) (fun x=>[(4,.v (.int .i64 x.1)),(3,.s 1 x.2.1)]) (fun x=>[(1,.row true 5 (cInt .u8) x.2.2)]) (fun x=>DgInv N x.1 x.2.1 x.2.2) (fun x=>(x.1+8).toNat) (k0,l0,b0) [] hz ?_ ?_
 ·cbv
  subst hE
  and_intros
  all_goals first
   | rfl
   | exact True.intro
   | exact Sm.of hb0.symm
   | exact vj hk0.symm
   | exact vi hk0.symm
   | (simp [hl0]; done)
 ·rintro ⟨k,l,o⟩ hi
  have hi:DgInv N k l o:=hi
  clear hz
  cbv
  refine fork.mk ?_ ?_
  ·intro g1
   have g1:0<=k:=by subst hE; exact of_decide_eq_true (show decide (k>=0)=true from g1)
   refine Exists.elim (hstep k l o hi g1) ?_
   intro d hd
   have hr:=hrem hd
   have e1:=hr.1
   have e2:=hr.2
   have hk1:=hd.k1
   have hl1:=hd.l1
   have hlen:=hd.len
   have hon:=hd.on
   have hoff:=hd.off
   have hnz1:std.nz .shr k:=g1
   refine exVar (k - 8) ?_; intro k' hk'
   rw [<-hk'] at hon hoff
   refine exVar (o++[d]) ?_; intro o' ho'
   refine exVar (l+1) ?_; intro l' hl'
   have hfit:std.fits (l+1) 1:=by rw [s_fits]; omega
   have hrow:std.app Int (std.tk Int o l) [std.cv .u8 (std.ib .shr .i64 n k)]=o':=by
    rw [e2,s_app,s_tk,List.take_of_length_le (by omega),ho']
   have hlr:∀ a:List Int,a.length=1->std.ad l (std.len Int a)=l':=by
    intro a ha
    rw [s_ad,s_len,ha,hl']; rfl
   rw [<-ho',<-hl'] at hon
   have hkw:std.ib .sub .i64 k 8=k':=by rw [s_sub,w64 (by omega) (by omega),hk']
   have hmu:(k'+8).toNat < (k+8).toNat:=by omega
   clear ho' hl' hd hi hk1 hl1 hlen hr e2 h
   cbv
   repeat (refine Need.mk (by subst hE; first | exact hnz1 | (show (256:Int) ≠ 0; decide) | (simp; done)) ?_; cbv)
   refine fork.mk ?_ ?_
   ·intro g2
    have g2:0 < d:=by rw [<-e1]; subst hE; exact of_decide_eq_true (show decide (std.ib .rem .i64 (std.ib .shr .i64 n k) 256 > 0)=true from g2)
    have hq:=hon (.inl g2)
    cbv
    repeat (refine Need.mk (by subst hE; first | exact hnz1 | exact hfit | (simp; done)) ?_; cbv)
    refine ⟨(k',l',o'),[0,3],hq,hmu,?_⟩
    cbv
    subst hE
    and_intros
    all_goals first
     | rfl
     | exact True.intro
     | exact Sm.of hrow
     | exact vi hkw
     | exact congrArg (AV.s 3) (hlr _ rfl)
     | (simp; done)
   ·intro g2
    have g2:¬ 0 < d:=by rw [<-e1]; subst hE; exact of_decide_eq_false (show decide (std.ib .rem .i64 (std.ib .shr .i64 n k) 256 > 0)=false from g2)
    cbv
    refine fork.mk ?_ ?_
    ·intro g3
     have g3:0 < l:=by subst hE; exact of_decide_eq_true (show decide (l > 0)=true from g3)
     have hq:=hon (.inr g3)
     cbv
     repeat (refine Need.mk (by subst hE; first | exact hnz1 | exact hfit | (simp; done)) ?_; cbv)
     refine ⟨(k',l',o'),[0,3],hq,hmu,?_⟩
     cbv
     subst hE
     and_intros
     all_goals first
      | rfl
      | exact True.intro
      | exact Sm.of hrow
      | exact vi hkw
      | exact congrArg (AV.s 3) (hlr _ rfl)
      | (simp; done)
    ·intro g3
     have g3:¬ 0 < l:=by subst hE; exact of_decide_eq_false (show decide (l > 0)=false from g3)
     have hq:=hoff g2 g3
     cbv
     refine ⟨(k',l,o),[],hq,hmu,?_⟩
     cbv
     subst hE
     and_intros
     all_goals first
      | rfl
      | exact True.intro
      | exact vi hkw
      | (simp; done)
  ·intro g1
   have g1:¬ 0<=k:=by subst hE; exact of_decide_eq_false (show decide (k>=0)=false from g1)
   have hs:=hlast k l o hi g1
   cbv
   refine Need.mk (fun y=>⟨y,rfl⟩) ?_
   cbv
   subst hE
   exact congrArg Value.string hs
theorem rsm_no (neg:Bool) (num den:ByteArray) (h:3 < num.size\/3 < den.size):Con Tryz.prog 272 [.v (rR neg num den)] (.v (.tuple #[.int .i64 0,.int .i64 0,.bool false])):=by
 unfold rR
 refine Con.of ttOk mixed Tryz.func272 { ord:=[(3,[0,1,3,4,2,5,6,7])] } .nil 0 (by kernel_rfl) (fun P' E hP hE=>?_)
 cbv
 refine fork.mk ?_ ?_
 ·intro h1
  cbv
 ·intro h1
  have h1:¬ 3 < num.size:=by subst hE; have:=of_decide_eq_false (show decide ((num.size:Int) > 3)=false from h1); omega
  cbv
  refine fork.mk ?_ ?_
  ·intro h2
   cbv
  ·intro h2
   exfalso
   subst hE
   have:=of_decide_eq_false (show decide ((den.size:Int) > 3)=false from h2)
   omega
theorem rsm_yes (neg:Bool) (num den:ByteArray) (hn:num.size<=3) (hd:den.size<=3):Con Tryz.prog 272 [.v (rR neg num den)] (.v (.tuple #[.int .i64 (zval neg num),.int .i64 (max (bv den:Int) 1),.bool true])):=by
 have s1:=rnumber_con num (by omega)
 have s2:=rnumber_con den (by omega)
 have b1:=zval_small false num (by omega)
 obtain ⟨N,hN⟩:∃ N:Int,N=(bv num:Nat):=⟨_,rfl⟩
 obtain ⟨D,hD⟩:∃ D:Int,D=(bv den:Nat):=⟨_,rfl⟩
 obtain ⟨rn,hrn⟩:∃ N:Int,N=zval neg num:=⟨_,rfl⟩
 obtain ⟨rd,hrd⟩:∃ N:Int,N=max (bv den:Int) 1:=⟨_,rfl⟩
 rw [<-hrn,<-hrd]
 have b2:N < 72057594037927936/\0<=N:=by
  have e:zval false num=N:=by rw [hN]; rfl
  rw [e] at b1
  omega
 rw [<-hN] at s1
 rw [<-hD] at s2
 have d1:D=0->rd=1:=by intro h; omega
 have d2:¬ D=0->rd=D:=by intro h; omega
 have n1:neg=true->rn = -N:=by intro h; rw [hrn,h,hN]; rfl
 have n2:neg=false->rn=N:=by intro h; rw [hrn,h,hN]; rfl
 have hun:std.un .neg .i64 N = -N:=by rw [s_neg,w64 (by omega) (by omega)]; omega
 clear hrn hrd hN hD b1
 unfold rR
 refine Con.of ttOk mixed Tryz.func272 { ord:=[(3,[0,1,3,4,2,5,6,7])] } .nil 0 (by kernel_rfl) (fun P' E hP hE=>?_)
 cbv
 refine fork.na (by subst hE; exact decide_eq_false (show ¬ ((num.size:Int) > 3) by omega)) ?_
 cbv
 refine fork.na (by subst hE; exact decide_eq_false (show ¬ ((den.size:Int) > 3) by omega)) ?_
 cbv
 refine CallTo.w hP hE s1 ⟨rfl,trivial⟩ ?_
 cbv
 refine CallTo.w hP hE s2 ⟨rfl,trivial⟩ ?_
 cbv
 refine fork.mk ?_ ?_
 ·intro g1
  have g1:D=0:=by subst hE; exact of_decide_eq_true (show decide (D=0)=true from g1)
  have d1:=d1 g1
  cbv
  refine fork.mk ?_ ?_
  ·intro g2
   have n1:=n1 g2
   cbv
   subst hE
   rw [d1,n1]
   exact congrArg (fun x=>Value.tuple #[.int .i64 x,.int .i64 1,.bool true]) hun
  ·intro g2
   have n2:=n2 g2
   cbv
   rw [d1,n2]
 ·intro g1
  have g1:¬ D=0:=by subst hE; exact of_decide_eq_false (show decide (D=0)=false from g1)
  have d2:=d2 g1
  cbv
  refine fork.mk ?_ ?_
  ·intro g2
   have n1:=n1 g2
   cbv
   subst hE
   rw [d2,n1]
   exact congrArg (fun x=>Value.tuple #[.int .i64 x,.int .i64 D,.bool true]) hun
  ·intro g2
   have n2:=n2 g2
   cbv
   rw [d2,n2]
/-- The canonical number of n / d in its parts. -/
theorem rI_parts {n:Int} {d:Nat} (h0:n ≠ 0) (hd:0 < d):rI n d=.agg #[.bool (decide (n < 0)),.string (mg (n.natAbs / Nat.gcd n.natAbs d)),.string (if d / Nat.gcd n.natAbs d=1 then ⟨⟨[]⟩⟩ else mg (d / Nat.gcd n.natAbs d))]:=by
 unfold rI rR
 rw [if_neg h0]
 obtain ⟨g,hg⟩:∃ g,g=Nat.gcd n.natAbs d:=⟨_,rfl⟩
 rw [<-hg]
 have g0:0 < g:=by rw [hg]; exact Nat.gcd_pos_of_pos_right _ hd
 have gn:(g:Int) ∣ n:=Int.ofNat_dvd_left.2 (by rw [hg]; exact Nat.gcd_dvd_left _ _)
 obtain ⟨q,hq⟩:=gn
 have e1:n / (g:Int)=q:=by rw [hq]; exact Int.mul_ediv_cancel_left _ (by omega)
 have e2:n.natAbs / g=q.natAbs:=by rw [hq,Int.natAbs_mul,Int.natAbs_natCast]; exact Nat.mul_div_cancel_left _ g0
 have e3:decide (n < 0)=decide (q < 0):=by
  refine decide_eq_decide.2 ?_
  rw [hq]
  constructor
  ·intro h
   refine Decidable.byContradiction fun c=>?_
   have:=Int.mul_nonneg (show (0:Int)<=g by omega) (show 0<=q by omega)
   omega
  ·intro h
   exact Int.mul_neg_of_pos_of_neg (by omega) h
 rw [e1,e2,e3]
theorem rpack_con (n:Int) (d:Nat) (hd:0 < d) (hd1:d < 72057594037927936) (hn:n.natAbs < 72057594037927936):Con Tryz.prog 273 [.v (.int .i64 n),.v (.int .i64 d)] (.v (rI n d)):=by
 obtain ⟨D,hD⟩:∃ D:Int,D=d:=⟨_,rfl⟩
 obtain ⟨N,hN⟩:∃ N:Int,N=n.natAbs:=⟨_,rfl⟩
 obtain ⟨G,hG⟩:∃ G,G=Nat.gcd n.natAbs d:=⟨_,rfl⟩
 have g0:0 < G:=by rw [hG]; exact Nat.gcd_pos_of_pos_right _ hd
 have gdn:G ∣ n.natAbs:=by rw [hG]; exact Nat.gcd_dvd_left _ _
 have gdd:G ∣ d:=by rw [hG]; exact Nat.gcd_dvd_right _ _
 have c1:=rdigits_con (n.natAbs / G) (Nat.lt_of_le_of_lt (Nat.div_le_self _ _) hn)
 have c2:=rdigits_con (d / G) (Nat.lt_of_le_of_lt (Nat.div_le_self _ _) hd1)
 have q1:std.ib .quo .i64 N (G:Int)=((n.natAbs / G:Nat):Int):=by
  rw [s_quo,hN,Int.tdiv_eq_ediv_of_nonneg (by omega),<-Int.natCast_ediv]
  have:=Nat.div_le_self n.natAbs G
  generalize n.natAbs / G=u at *
  exact w64 (by omega) (by omega)
 have q2:std.ib .quo .i64 D (G:Int)=((d / G:Nat):Int):=by
  rw [s_quo,hD,Int.tdiv_eq_ediv_of_nonneg (by omega),<-Int.natCast_ediv]
  have:=Nat.div_le_self d G
  generalize d / G=u at *
  exact w64 (by omega) (by omega)
 obtain ⟨x1,hx1⟩:∃ x,x=mg (n.natAbs / G):=⟨_,rfl⟩
 obtain ⟨x2,hx2⟩:∃ x,x=mg (d / G):=⟨_,rfl⟩
 obtain ⟨Q1,hQ1⟩:∃ x:Int,x=((n.natAbs / G:Nat):Int):=⟨_,rfl⟩
 obtain ⟨Q2,hQ2⟩:∃ x:Int,x=((d / G:Nat):Int):=⟨_,rfl⟩
 have hQ2':Q2=1\/1 < Q2:=by
  have:0 < d / G:=Nat.div_pos (Nat.le_of_dvd hd gdd) g0
  omega
 rw [<-hx1,<-hQ1] at c1
 rw [<-hx2,<-hQ2] at c2
 obtain ⟨Gi,hGi⟩:∃ x:Int,x=(G:Int):=⟨_,rfl⟩
 rw [<-hQ1,<-hGi] at q1
 rw [<-hQ2,<-hGi] at q2
 obtain ⟨rs,rn,rd,hres⟩:∃ a b c,rI n d=.agg #[.bool a,.string b,.string c]:=by
  unfold rI
  split
  ·exact ⟨_,_,_,rfl⟩
  ·exact ⟨_,_,_,rfl⟩
 have t0:n=0->rs=false/\rn=⟨⟨[]⟩⟩/\rd=⟨⟨[]⟩⟩:=by
  intro h
  rw [h] at hres
  unfold rI rR at hres
  rw [if_pos rfl] at hres
  injection hres with hres
  injection hres with hres
  injection hres with h1 hres
  injection hres with h2 hres
  injection hres with h3 hres
  injection h1 with h1
  injection h2 with h2
  injection h3 with h3
  exact ⟨h1.symm,h2.symm,h3.symm⟩
 have t1:¬ n=0->rs=decide (n < 0)/\rn=x1/\(Q2=1->rd=⟨⟨[]⟩⟩)/\(1 < Q2->rd=x2):=by
  intro h
  rw [rI_parts h hd,<-hG,<-hx1,<-hx2] at hres
  injection hres with hres
  injection hres with hres
  injection hres with h1 hres
  injection hres with h2 hres
  injection hres with h3 hres
  injection h1 with h1
  injection h2 with h2
  injection h3 with h3
  refine ⟨h1.symm,h2.symm,fun e=>?_,fun e=>?_⟩
  ·rw [<-h3,if_pos (by omega)]
  ·rw [<-h3,if_neg (by omega)]
 rw [hres,<-hD]
 have hgcd:Nat.gcd N.toNat D.toNat=G:=by rw [hG,hN,hD]; rfl
 have hz:0<=N/\0<=D/\N < 72057594037927936/\D < 72057594037927936/\Nat.gcd N.toNat D.toNat=G:=⟨by omega,by omega,by omega,by omega,hgcd⟩
 have hNn:n < 0->std.un .neg .i64 n=N:=by intro h; rw [s_neg,w64 (by omega) (by omega)]; omega
 have hNp:¬ n < 0->n=N:=by intro h; omega
 have hN0:N=0 ↔ n=0:=by omega
 have hlt:std.ic .lss n 0=decide (n < 0):=rfl
 clear hres hx1 hx2 hQ1 hQ2 hgcd gdn gdd hG hN hD hd1 hn hd
 refine Con.of ttOk mixed Tryz.func273 { ord:=[(8,[0,1,2,3,4,5])] } .nil 0 (by kernel_rfl) (fun P' E hP hE=>?_)
 cbv
 refine fork.mk ?_ ?_
 ·intro g1
  have g1:n < 0:=by subst hE; exact of_decide_eq_true (show decide (n < 0)=true from g1)
  have hNe:std.un .neg .i64 n=N:=hNn g1
  have hcond:std.ic .eql (std.un .neg .i64 n) 0=false:=by
   rw [hNe,s_eql]; exact decide_eq_false (fun h=>by have:=hN0.1 h; omega)
  cbv
  refine fork.na (by subst hE; exact hcond) ?_
  have t1:=t1 (by omega)
  cbv
  refine LoopTo.by (ι:=Int × Int) (fun x=>[(6,.v (.int .i64 x.1)),(7,.v (.int .i64 x.2)),(0,.v (.int .i64 N))]) (fun x=>[]) (fun x=>0<=x.1/\0<=x.2/\x.1 < 72057594037927936/\x.2 < 72057594037927936/\Nat.gcd x.1.toNat x.2.toNat=G) (fun x=>x.2.toNat) (N,D) [] hz ?_ ?_
  ·cbv
   subst hE
   and_intros
   all_goals first
    | rfl
    | exact True.intro
    | exact vi hNe
    | (simp; done)
  ·rintro ⟨m,k⟩ hk
   have k1:0<=m:=hk.1
   have k2:0<=k:=hk.2.1
   have k3:m < 72057594037927936:=hk.2.2.1
   have k4:k < 72057594037927936:=hk.2.2.2.1
   have k5:Nat.gcd m.toNat k.toNat=G:=hk.2.2.2.2
   clear hk hz
   cbv
   refine fork.mk ?_ ?_
   ·intro g5
    have k1:0<=m:=k1
    have k2:0<=k:=k2
    have k4:k < 72057594037927936:=k4
    have g5:0 < k:=by subst hE; exact of_decide_eq_true (show decide (k > 0)=true from g5)
    refine exVar (m % k) ?_; intro r hr
    have hr0:=Int.emod_nonneg m (show k ≠ 0 by omega)
    have hr1:=Int.emod_lt_of_pos m g5
    have hrem:std.ib .rem .i64 m k=r:=by rw [s_rem,hr]; exact Int.tmod_eq_emod_of_nonneg k1
    have hnz:std.nz .rem k:=by show k ≠ 0; omega
    have hq:0<=k/\0<=r/\k < 72057594037927936/\r < 72057594037927936/\Nat.gcd k.toNat r.toNat=G:=by
     refine ⟨k2,by omega,k4,by omega,?_⟩
     have e:r.toNat=m.toNat % k.toNat:=by
      rw [hr]
      have h1:m=(m.toNat:Int):=by omega
      have h2:k=(k.toNat:Int):=by omega
      rw [h1,h2,<-Int.natCast_emod]
      rfl
     rw [e,<-k5,Nat.gcd_comm k.toNat,<-Nat.gcd_rec,Nat.gcd_comm]
    have hmu:r.toNat < k.toNat:=by omega
    clear hr hr0 hr1
    cbv
    repeat (refine Need.mk (by subst hE; first | exact hnz | (simp; done)) ?_; cbv)
    refine ⟨(k,r),[],hq,hmu,?_⟩
    cbv
    subst hE
    and_intros
    all_goals first
     | rfl
     | exact True.intro
     | exact vi hrem
     | (simp; done)
   ·intro g5
    have k1:0<=m:=k1
    have k2:0<=k:=k2
    have g0:0 < G:=g0
    have g5:¬ 0 < k:=by subst hE; exact of_decide_eq_false (show decide (k > 0)=false from g5)
    have hk0:k.toNat=0:=by omega
    rw [hk0,Nat.gcd_zero_right] at k5
    have hGi:Gi=(G:Int):=hGi
    have hmG:Gi=m:=by omega
    rw [hmG] at q1 q2
    have hnz:std.nz .quo m:=by show m ≠ 0; omega
    have hq2:std.ic .gtr (std.ib .quo .i64 D m) 1=decide (Q2 > 1):=by rw [q2]; rfl
    
    cbv
    repeat (refine Need.mk (by subst hE; first | exact hnz | (simp; done)) ?_; cbv)
    refine CallTo.con hP hE c1 (by subst hE; exact ⟨congrArg (Value.int .i64) q1,trivial⟩) ?_
    cbv
    repeat (refine Need.mk (by subst hE; first | exact hnz | (simp; done)) ?_; cbv)
    refine fork.mk ?_ ?_
    ·intro g6
     have g6:1 < Q2:=by subst hE; exact of_decide_eq_true (hq2.symm.trans g6)
     have t2:=t1.2.2.2 g6
     cbv
     repeat (refine Need.mk (by subst hE; first | exact hnz | (simp; done)) ?_; cbv)
     refine CallTo.con hP hE c2 (by subst hE; exact ⟨congrArg (Value.int .i64) q2,trivial⟩) ?_
     cbv
     subst hE
     rw [t2,t1.2.1]
     exact congrArg (fun b=>Value.agg #[.bool b,.string x1,.string x2]) (hlt.trans t1.1.symm)
    ·intro g6
     have g6:¬ 1 < Q2:=by subst hE; exact of_decide_eq_false (hq2.symm.trans g6)
     have t2:=t1.2.2.1 (by omega)
     cbv
     subst hE
     rw [t2,t1.2.1]
     exact congrArg (fun b=>Value.agg #[.bool b,.string x1,.string ⟨⟨[]⟩⟩]) (hlt.trans t1.1.symm)
 ·intro g1
  have g1:¬ n < 0:=by subst hE; exact of_decide_eq_false (show decide (n < 0)=false from g1)
  have hNe:=hNp g1
  cbv
  refine fork.mk ?_ ?_
  ·intro g2
   have g2:n=0:=by subst hE; exact of_decide_eq_true (show decide (n=0)=true from g2)
   have t0:=t0 g2
   cbv
   rw [t0.1,t0.2.1,t0.2.2]
  ·intro g2
   have g2:¬ n=0:=by subst hE; exact of_decide_eq_false (show decide (n=0)=false from g2)
   have t1:=t1 g2
   cbv
   refine LoopTo.by (ι:=Int × Int) (fun x=>[(6,.v (.int .i64 x.1)),(7,.v (.int .i64 x.2)),(0,.v (.int .i64 N))]) (fun x=>[]) (fun x=>0<=x.1/\0<=x.2/\x.1 < 72057594037927936/\x.2 < 72057594037927936/\Nat.gcd x.1.toNat x.2.toNat=G) (fun x=>x.2.toNat) (N,D) [] hz ?_ ?_
   ·cbv
    subst hE
    and_intros
    all_goals first
     | rfl
     | exact True.intro
     | exact vi hNe
     | (simp; done)
   ·rintro ⟨m,k⟩ hk
    have k1:0<=m:=hk.1
    have k2:0<=k:=hk.2.1
    have k3:m < 72057594037927936:=hk.2.2.1
    have k4:k < 72057594037927936:=hk.2.2.2.1
    have k5:Nat.gcd m.toNat k.toNat=G:=hk.2.2.2.2
    clear hk hz
    cbv
    refine fork.mk ?_ ?_
    ·intro g5
     have k1:0<=m:=k1
     have k2:0<=k:=k2
     have k4:k < 72057594037927936:=k4
     have g5:0 < k:=by subst hE; exact of_decide_eq_true (show decide (k > 0)=true from g5)
     refine exVar (m % k) ?_; intro r hr
     have hr0:=Int.emod_nonneg m (show k ≠ 0 by omega)
     have hr1:=Int.emod_lt_of_pos m g5
     have hrem:std.ib .rem .i64 m k=r:=by rw [s_rem,hr]; exact Int.tmod_eq_emod_of_nonneg k1
     have hnz:std.nz .rem k:=by show k ≠ 0; omega
     have hq:0<=k/\0<=r/\k < 72057594037927936/\r < 72057594037927936/\Nat.gcd k.toNat r.toNat=G:=by
      refine ⟨k2,by omega,k4,by omega,?_⟩
      have e:r.toNat=m.toNat % k.toNat:=by
       rw [hr]
       have h1:m=(m.toNat:Int):=by omega
       have h2:k=(k.toNat:Int):=by omega
       rw [h1,h2,<-Int.natCast_emod]
       rfl
      rw [e,<-k5,Nat.gcd_comm k.toNat,<-Nat.gcd_rec,Nat.gcd_comm]
     have hmu:r.toNat < k.toNat:=by omega
     clear hr hr0 hr1
     cbv
     repeat (refine Need.mk (by subst hE; first | exact hnz | (simp; done)) ?_; cbv)
     refine ⟨(k,r),[],hq,hmu,?_⟩
     cbv
     subst hE
     and_intros
     all_goals first
      | rfl
      | exact True.intro
      | exact vi hrem
      | (simp; done)
    ·intro g5
     have k1:0<=m:=k1
     have k2:0<=k:=k2
     have g0:0 < G:=g0
     have g5:¬ 0 < k:=by subst hE; exact of_decide_eq_false (show decide (k > 0)=false from g5)
     have hk0:k.toNat=0:=by omega
     rw [hk0,Nat.gcd_zero_right] at k5
     have hGi:Gi=(G:Int):=hGi
     have hmG:Gi=m:=by omega
     rw [hmG] at q1 q2
     have hnz:std.nz .quo m:=by show m ≠ 0; omega
     have hq2:std.ic .gtr (std.ib .quo .i64 D m) 1=decide (Q2 > 1):=by rw [q2]; rfl
     
     cbv
     repeat (refine Need.mk (by subst hE; first | exact hnz | (simp; done)) ?_; cbv)
     refine CallTo.con hP hE c1 (by subst hE; exact ⟨congrArg (Value.int .i64) q1,trivial⟩) ?_
     cbv
     repeat (refine Need.mk (by subst hE; first | exact hnz | (simp; done)) ?_; cbv)
     refine fork.mk ?_ ?_
     ·intro g6
      have g6:1 < Q2:=by subst hE; exact of_decide_eq_true (hq2.symm.trans g6)
      have t2:=t1.2.2.2 g6
      cbv
      repeat (refine Need.mk (by subst hE; first | exact hnz | (simp; done)) ?_; cbv)
      refine CallTo.con hP hE c2 (by subst hE; exact ⟨congrArg (Value.int .i64) q2,trivial⟩) ?_
      cbv
      subst hE
      rw [t2,t1.2.1]
      exact congrArg (fun b=>Value.agg #[.bool b,.string x1,.string x2]) (hlt.trans t1.1.symm)
     ·intro g6
      have g6:¬ 1 < Q2:=by subst hE; exact of_decide_eq_false (hq2.symm.trans g6)
      have t2:=t1.2.2.1 (by omega)
      cbv
      subst hE
      rw [t2,t1.2.1]
      exact congrArg (fun b=>Value.agg #[.bool b,.string x1,.string ⟨⟨[]⟩⟩]) (hlt.trans t1.1.symm)
theorem Zp.nat (n:Nat):Zp (n:Int) false (mg n):=⟨by simp,rfl⟩
theorem mg_one1:mg 1=⟨#[1]⟩:=dg_ext (by rw [dg_mg,mg_one8 (by decide) (by decide)]; rfl)
theorem rparts_con (neg:Bool) (num den:ByteArray) (hn:num.size<=1073741824) (hd:den.size<=1073741824):Con Tryz.prog 241 [.v (rR neg num den)] (.v (.tuple #[zV (zval neg num),zV (bv (dden den):Nat)])):=by
 have c1:=radd_con neg false num ⟨⟨[]⟩⟩ hn (by decide)
 have c2:=radd_con false false den ⟨⟨[]⟩⟩ hd (by decide)
 have e1:zval neg num+zval false ⟨⟨[]⟩⟩=zval neg num:=by show _+((0:Nat):Int)=_; omega
 have e2:zval false den+zval false ⟨⟨[]⟩⟩=(bv den:Nat):=by show ((bv den:Nat):Int)+((0:Nat):Int)=_; omega
 rw [e1] at c1
 rw [e2,(Zp.nat (bv den)).v] at c2
 obtain ⟨sa,xa,za⟩:=Zp.ex (zval neg num)
 rw [za.v] at c1 ⊢
 have c3:=rof_con 1 (by decide) (by decide)
 have hv:zV (bv (dden den):Nat)=.agg #[.bool false,.string (mg (bv (dden den)))]:=(Zp.nat _).v
 have h1:zV 1=.agg #[.bool false,.string (mg 1)]:=(Zp.nat 1).v
 rw [h1] at c3
 rw [hv]
 obtain ⟨x0,hx0⟩:∃ x,x=mg (bv den):=⟨_,rfl⟩
 obtain ⟨x1,hx1⟩:∃ x,x=mg 1:=⟨_,rfl⟩
 obtain ⟨x2,hx2⟩:∃ x,x=mg (bv (dden den)):=⟨_,rfl⟩
 rw [<-hx0] at c2
 rw [<-hx1] at c3
 rw [<-hx2]
 have k1:x0=⟨⟨[]⟩⟩->x2=x1:=by
  intro h
  have:=mg_nil.1 (hx0.symm.trans h)
  rw [hx2,hx1,dden_bv,this]; rfl
 have k2:¬ x0=⟨⟨[]⟩⟩->x2=x0:=by
  intro h
  have:¬ bv den=0:=fun e=>h (hx0.trans (mg_nil.2 e))
  rw [hx2,hx0,dden_bv]; congr 1; omega
 have hsq:std.sq x0 ⟨⟨[]⟩⟩=decide (x0=⟨⟨[]⟩⟩):=sq_iff
 clear hx0 hx1 hx2 e1 e2 za hv h1
 unfold rR zR at *
 refine Con.of ttOk mixed Tryz.func241 { ord:=[(5,(.br 0 (.br 1 (.op 2 (.op 3 .nil)) (.br 2 (.br 1 (.op 3 .nil) .stop) .stop)) (.br 1 (.br 0 (.op 2 (.op 3 .nil)) .stop) .stop)))] } .nil 0 (by kernel_rfl) (fun P' E hP hE=>?_)
 cbv
 refine CallTo.w hP hE c1 ⟨rfl,rfl,trivial⟩ ?_
 cbv
 refine CallTo.w hP hE c2 ⟨rfl,rfl,trivial⟩ ?_
 cbv
 refine fork.mk ?_ ?_
 ·intro g1
  have k1:=k1 (by subst hE; exact of_decide_eq_true (hsq.symm.trans g1))
  subst k1
  cbv
  refine CallTo.w hP hE c3 ⟨rfl,trivial⟩ ?_
  cbv
  refine DrawTo.run ?_
  cbv
  repeat' first
   | exact True.intro
   | (refine Both.mk ?_ ?_<;>cbv)
   | (simp only [and_self]; done)
 ·intro g1
  have k2:=k2 (by subst hE; exact of_decide_eq_false (hsq.symm.trans g1))
  subst k2
  cbv
  refine DrawTo.run ?_
  cbv
  repeat' first
   | exact True.intro
   | (refine Both.mk ?_ ?_<;>cbv)
   | (simp only [and_self]; done)
theorem rreduce_con (na:Bool) (ma mb:ByteArray) (ha:ma.size<=536870912) (hb:mb.size<=536870912) (h0:0 < bv mb):Con Tryz.prog 243 [.v (zR na ma),.v (zR false mb)] (.v (rI (zval na ma) (bv mb))):=by
 have c1:=radd_con na false ma ⟨⟨[]⟩⟩ (by omega) (by decide)
 have c2:=radd_con false false mb ⟨⟨[]⟩⟩ (by omega) (by decide)
 have e1:zval na ma+zval false ⟨⟨[]⟩⟩=zval na ma:=by show _+((0:Nat):Int)=_; omega
 have e2:zval false mb+zval false ⟨⟨[]⟩⟩=(bv mb:Nat):=by show ((bv mb:Nat):Int)+((0:Nat):Int)=_; omega
 rw [e1] at c1
 rw [e2,(Zp.nat (bv mb)).v] at c2
 obtain ⟨sa,xa,za⟩:=Zp.ex (zval na ma)
 have qa:=za.size
 have qb:(mg (bv mb)).size<=mb.size:=mg_size_le (bv_lt mb)
 rw [za.v] at c1
 obtain ⟨G,hG⟩:∃ G,G=Nat.gcd (zval na ma).natAbs (bv mb):=⟨_,rfl⟩
 have g0:0 < G:=by rw [hG]; exact Nat.gcd_pos_of_pos_right _ h0
 have gdn:G ∣ (zval na ma).natAbs:=by rw [hG]; exact Nat.gcd_dvd_left _ _
 have gdd:G ∣ bv mb:=by rw [hG]; exact Nat.gcd_dvd_right _ _
 have gsz:(mg G).size<=mb.size:=mg_size_le (Nat.lt_of_le_of_lt (Nat.le_of_dvd h0 gdd) (bv_lt mb))
 have c3:=rgcd_con sa false xa (mg (bv mb)) (by omega) (by omega)
 rw [za.bv,bv_mg,<-hG,(Zp.nat G).v] at c3
 have c4:=rdiv_con sa xa (mg G) (by omega) (by omega) (by rw [bv_mg]; exact g0) (by rw [bv_mg,za.bv]; exact gdn)
 have c5:=rdiv_con false (mg (bv mb)) (mg G) (by omega) (by omega) (by rw [bv_mg]; exact g0) (by rw [bv_mg,bv_mg]; exact gdd)
 have e3:zval false (mg (bv mb))=(bv mb:Nat):=(Zp.nat _).zval
 rw [za.zval,bv_mg] at c4
 rw [e3,bv_mg,<-Int.natCast_ediv,(Zp.nat _).v,zV_zero] at c5
 obtain ⟨sq,xq,zq⟩:=Zp.ex (zval na ma / (G:Nat))
 rw [zq.v,zV_zero] at c4
 obtain ⟨rs,rn,rd,hres⟩:∃ a b c,rI (zval na ma) (bv mb)=.agg #[.bool a,.string b,.string c]:=by
  unfold rI
  split
  ·exact ⟨_,_,_,rfl⟩
  ·exact ⟨_,_,_,rfl⟩
 have inj:∀ {a a':Bool} {b c b' c':ByteArray},Value.agg #[.bool a,.string b,.string c]=.agg #[.bool a',.string b',.string c']->a=a'/\b=b'/\c=c':=by
  intro a a' b c b' c' h
  injection h with h
  injection h with h
  injection h with h1 h
  injection h with h2 h
  injection h with h3 h
  injection h1 with h1
  injection h2 with h2
  injection h3 with h3
  exact ⟨h1,h2,h3⟩
 have t0:xa=⟨⟨[]⟩⟩->rs=false/\rn=⟨⟨[]⟩⟩/\rd=⟨⟨[]⟩⟩:=by
  intro h
  have hz:=za.nil.1 h
  rw [hz] at hres
  unfold rI rR at hres
  rw [if_pos rfl] at hres
  have:=inj hres
  exact ⟨this.1.symm,this.2.1.symm,this.2.2.symm⟩
 obtain ⟨xd,hxd⟩:∃ x,x=mg (bv mb / G):=⟨_,rfl⟩
 have t1:¬ xa=⟨⟨[]⟩⟩->rs=sq/\rn=xq/\(xd=⟨#[1]⟩->rd=⟨⟨[]⟩⟩)/\(¬ xd=⟨#[1]⟩->rd=xd):=by
  intro h
  have hz:zval na ma ≠ 0:=fun e=>h (za.nil.2 e)
  have hr:=hres
  unfold rI rR at hr
  rw [if_neg hz,<-hG] at hr
  have h3:=inj hr
  refine ⟨by rw [<-h3.1,zq.s],by rw [<-h3.2.1,zq.m],fun e=>?_,fun e=>?_⟩
  ·rw [<-h3.2.2,if_pos]
   have:=congrArg bv (hxd.symm.trans (e.trans mg_one1.symm))
   rwa [bv_mg,bv_mg] at this
  ·rw [<-h3.2.2,if_neg]
   ·exact hxd.symm
   ·intro e'
    exact e (by rw [hxd,e',mg_one1])
 rw [hres]
 obtain ⟨xb,hxb⟩:∃ x,x=mg (bv mb):=⟨_,rfl⟩
 obtain ⟨xg,hxg⟩:∃ x,x=mg G:=⟨_,rfl⟩
 rw [<-hxb] at c2 c3 c5
 rw [<-hxg] at c3 c4 c5
 rw [<-hxd] at c5
 have hsq:std.sq xa ⟨⟨[]⟩⟩=decide (xa=⟨⟨[]⟩⟩):=sq_iff
 have hsq1:std.bn (std.sq xd ⟨#[1]⟩)=decide (¬ xd=⟨#[1]⟩):=by rw [s_bn,sq_iff]; simp
 clear hxb hxg hxd hres e1 e2 e3 za zq hG gdn gdd gsz qa qb inj
 unfold zR at *
 refine Con.of ttOk mixed Tryz.func243 { ord:=[(1,[0,1,3,4,2,5,6,7]),(5,[0,2,1,3,4,5])] } .nil 0 (by kernel_rfl) (fun P' E hP hE=>?_)
 cbv
 refine CallTo.w hP hE c1 ⟨rfl,rfl,trivial⟩ ?_
 cbv
 refine CallTo.w hP hE c2 ⟨rfl,rfl,trivial⟩ ?_
 cbv
 refine fork.mk ?_ ?_
 ·intro g1
  have t0:=t0 (by subst hE; exact of_decide_eq_true (hsq.symm.trans g1))
  cbv
  rw [t0.1,t0.2.1,t0.2.2]
 ·intro g1
  have t1:=t1 (by subst hE; exact of_decide_eq_false (hsq.symm.trans g1))
  cbv
  refine fork.na rfl ?_
  cbv
  refine CallTo.w hP hE c3 ⟨rfl,rfl,trivial⟩ ?_
  cbv
  refine CallTo.w hP hE c4 ⟨rfl,rfl,trivial⟩ ?_
  cbv
  refine CallTo.w hP hE c5 ⟨rfl,rfl,trivial⟩ ?_
  cbv
  refine fork.mk ?_ ?_
  ·intro g2
   have t2:=t1.2.2.2 (by subst hE; exact of_decide_eq_true (hsq1.symm.trans g2))
   cbv
   rw [t2,t1.1,t1.2.1]
  ·intro g2
   have t2:=t1.2.2.1 (by subst hE; exact Classical.not_not.1 (of_decide_eq_false (hsq1.symm.trans g2)))
   cbv
   rw [t2,t1.1,t1.2.1]
end Go.Proofs.YtkipmmiiackdaaaGreat.Sx
