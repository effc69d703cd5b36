/- Part 29 of what the statement needs: an executor of Go texts, arithmetic, and contracts of the functions that are called. -/
import Derived.Test.YtkipmmiiackdaaaGreatCa12
import Derived.Test.YtkipmmiiackdaaaGreatCa16
import Derived.Test.YtkipmmiiackdaaaGreatCa23
import Derived.Test.YtkipmmiiackdaaaGreatCa28
set_option linter.unusedSimpArgs false
set_option linter.unusedVariables false
set_option maxHeartbeats 8000000
set_option maxRecDepth 100000
namespace Go.Proofs.YtkipmmiiackdaaaGreat.Sx
open Env (std)
def canR (r:R):Bool:=eqCells r.c (cr r.q).c
def canP (p:Pt):Bool:=canR p.x && canR p.y
def canL (l:List Pt):Bool:=l.all canP
theorem canR_iff {r:R}:canR r=true ↔ r=cr r.q:=eqc_R _ _
theorem canP_iff {p:Pt}:canP p=true ↔ p=crP p.q:=by
 unfold canP crP
 rw [Bool.and_eq_true,canR_iff,canR_iff]
 constructor
 ·rintro ⟨h1,h2⟩
  cases p; simp only [Pt.q] at *; rw [<-h1,<-h2]
 ·intro h
  have h1:=congrArg Pt.x h
  have h2:=congrArg Pt.y h
  exact ⟨h1,h2⟩
theorem canL_eq {l:List Pt} (h:canL l=true):l=(l.map Pt.q).map crP:=by
 rw [List.map_map]
 conv=>lhs; rw [<-List.map_id l]
 refine List.map_congr_left fun p hp=>?_
 exact canP_iff.1 (List.all_eq_true.1 h p hp)
theorem rchk_q {a:R} {x:Rat} {k:Nat} (ha:Is k a x) (h:k<=134217728):Con Tryz.prog 110 [.v a.v] (.v (.int .i64 (if canR a=true then 0 else 1))):=by
 have hq:canR a=eqCells a.c (cr x).c:=by unfold canR; rw [ha.q]
 obtain ⟨m,em⟩:∃ m:Int,m=if canR a=true then 0 else 1:=⟨_,rfl⟩
 rw [<-em]
 rw [hq] at em
 have c1:=of98_con a.neg a.num a.den (ha.sz h).2.1
 have c2:=norm_con _ ha h
 obtain ⟨r,hr⟩:∃ r,r=cr x:=⟨_,rfl⟩
 rw [<-hr] at c2 em
 clear hq hr
 obtain ⟨n1,u1,d1⟩:=a
 obtain ⟨n2,u2,d2⟩:=r
 obtain ⟨e1,he1⟩:∃ e,e=dden d1:=⟨_,rfl⟩
 have he1':e1=dden (R.mk n1 u1 d1).den:=he1
 have he2':e1=dden (R.mk n1 u1 d1).den:=he1
 rw [<-he1'] at c1
 rw [<-he2'] at c2
 unfold rR fR at c1
 unfold fR at c2
 refine Con.of ttOk mixed Tryz.func110 { ord:=[(1,[0,1,2,3,4])] } .nil 0 (by kernel_rfl) (fun P' E hP hE=>?_)
 clear he1 he1' he2'
 cbv
 refine CallTo.w hP hE c1 (by subst hE; exact ⟨rfl,trivial⟩) ?_
 cbv
 refine CallTo.w hP hE c2 (by subst hE; exact ⟨rfl,trivial⟩) ?_
 cbv
 refine fork.mk ?_ ?_
 ·intro g
  cbv
  subst hE
  have g:(!eqCells (R.mk n1 u1 d1).c (R.mk n2 u2 d2).c)=true:=g
  rw [em,if_neg (by simpa using g)]
 ·intro g
  cbv
  subst hE
  have g:(!eqCells (R.mk n1 u1 d1).c (R.mk n2 u2 d2).c)=false:=g
  rw [em,if_pos (by simpa using g)]
theorem vchk_q {a:Pt} {A:Pq} {k:Nat} (ha:IsP k a A) (h:k<=134217728):Con Tryz.prog 25 [.v a.v] (.v (.int .i64 (if canP a=true then 0 else 1))):=by
 obtain ⟨m,em⟩:∃ m:Int,m=if canP a=true then 0 else 1:=⟨_,rfl⟩
 rw [<-em]
 unfold canP at em
 have c1:=rchk_q ha.x h
 have c2:=rchk_q ha.y h
 obtain ⟨m1,e1⟩:∃ m:Int,m=if canR a.x=true then 0 else 1:=⟨_,rfl⟩
 obtain ⟨m2,e2⟩:∃ m:Int,m=if canR a.y=true then 0 else 1:=⟨_,rfl⟩
 rw [<-e1] at c1
 rw [<-e2] at c2
 have key:m=if m1 ≠ 0 then 1 else if m2 ≠ 0 then 1 else 0:=by
  rw [em,e1,e2]
  cases canR a.x<;>cases canR a.y<;>rfl
 clear em e1 e2 ha
 obtain ⟨⟨an0,au0,ad0⟩,⟨an1,au1,ad1⟩⟩:=a
 refine Con.of ttOk mixed Tryz.func25 { un:=[(2,3)] } .nil 0 (by kernel_rfl) (fun P' E hP hE=>?_)
 cbv
 refine CallTo.w hP hE c1 ⟨rfl,trivial⟩ ?_
 cbv
 refine fork.mk ?_ ?_
 ·intro g
  cbv
  subst hE
  have g:std.ic .neq m1 0=true:=g
  rw [key,if_pos (by simpa using g)]
 ·intro g
  cbv
  refine CallTo.w hP hE c2 ⟨rfl,trivial⟩ ?_
  cbv
  have g0:m1=0:=by
   subst hE
   have g:std.ic .neq m1 0=false:=g
   simpa using g
  refine fork.mk ?_ ?_
  ·intro g
   cbv
   subst hE
   have g:std.ic .neq m2 0=true:=g
   rw [key,if_neg (by simp [g0]),if_pos (by simpa using g)]
  ·intro g
   cbv
   subst hE
   have g:std.ic .neq m2 0=false:=g
   rw [key,if_neg (by simp [g0]),if_neg (by simpa using g)]
theorem cont_ok:InlOk Tryz.prog [(193,Tryz.f193,{}),(276,Tryz.f276,{}),(194,Tryz.f194,{})]:=
 InlOk.cons Tryz.func193 (by kernel_rfl) (InlOk.cons Tryz.func276 (by kernel_rfl) (InlOk.cons Tryz.func194 (by kernel_rfl) .nil))
/-- What a round over a list needs. -/
structure LstF (ps:List Pt) (n i j:Int) (p:Pt):Prop where
 in1:0<=i/\i < (ps.length:Int)
 add:std.ib .add .i64 i 1=j
 g1:std.get Pt ps i zQ=p
 m1:p ∈ ps
 j0:0<=j
 j1:j<=n
 mu:(n - j).toNat < (n - i).toNat
 tk:ps.take j.toNat=ps.take i.toNat++[p]
 ej:j=i+1
theorem lstF_ex {ps:List Pt} {n i:Int} (hn:n=(ps.length:Int)) (hl:ps.length<=140737488355328) (h0:0<=i) (h1:i < n):∃ j p,LstF ps n i j p:=by
 have hpos:i.toNat < ps.length:=by omega
 refine ⟨i+1,ps.getD i.toNat zQ,⟨⟨h0,by omega⟩,by rw [s_add,w64 (by omega) (by omega)],rfl,getD_mem hpos,by omega,by omega,by omega,?_,rfl⟩⟩
 have e2:(i+1).toNat=i.toNat+1:=by omega
 rw [e2,List.take_add_one,List.getD_eq_getElem?_getD,List.getElem?_eq_getElem hpos]; rfl
theorem canonL_q {k:Nat} {ps:List Pt} (hp:∀ p ∈ ps,IsP k p p.q) (hk:k<=134217728) (hl:ps.length<=140737488355328):Con Tryz.prog 93 [.ro cP ps] (.v (.bool (canL ps))):=by
 obtain ⟨r,er⟩:∃ r,r=canL ps:=⟨_,rfl⟩
 rw [<-er]
 obtain ⟨n,hn⟩:∃ n:Int,n=ps.length:=⟨_,rfl⟩
 obtain ⟨i0,hi0⟩:∃ i:Int,i=0:=⟨_,rfl⟩
 have hp0:0<=i0/\i0<=n/\canL (ps.take i0.toNat)=true:=⟨by omega,by omega,by rw [hi0]; rfl⟩
 refine Con.of ttOk mixed Tryz.func93 {} cont_ok 4 (by kernel_rfl) (fun P' E hP hE=>?_)
 cbv
 refine LoopTo.by (ι:=Int) (fun x=>[(7,.v (.int .i64 n)),(8,.v (.int .i64 x))]) (fun x=>[]) (fun x=>0<=x/\x<=n/\canL (ps.take x.toNat)=true) (fun x=>(n - x).toNat) i0 [] hp0 ?_ ?_
 ·cbv
  subst hE
  and_intros
  all_goals first
   | exact True.intro
   | rfl
   | exact vi hn.symm
   | exact vj hi0.symm
   | (simp; done)
 ·intro i hi
  have h0:0<=i:=hi.1
  have h1:i<=n:=hi.2.1
  have h2:canL (ps.take i.toNat)=true:=hi.2.2
  clear hi hp0
  cbv
  refine fork.mk ?_ ?_
  ·intro g
   have hn:n=(ps.length:Int):=hn
   have hlt:i < n:=by subst hE; simpa [std] using g
   refine Exists.elim (lstF_ex hn hl h0 hlt) ?_
   intro j h
   refine Exists.elim h ?_
   intro p hf
   have kc:=vchk_q (hp p hf.m1) hk
   obtain ⟨m,em⟩:∃ m:Int,m=if canP p=true then 0 else 1:=⟨_,rfl⟩
   rw [<-em] at kc
   have hin:=hf.in1
   have hget:=hf.g1
   have hj:=hf.add
   have hmu:=hf.mu
   have hst:m=0->0<=j/\j<=n/\canL (ps.take j.toNat)=true:=fun h=>⟨hf.j0,hf.j1,by
    have hc:canP p=true:=by
     cases e:canP p with
     | true=>rfl
     | false=>rw [em,e] at h; cases h
    rw [hf.tk]; unfold canL at h2 ⊢; rw [List.all_append,h2]; simp [hc]⟩
   have hno:m ≠ 0->r=false:=fun h=>by
    have hc:canP p=false:=by
     cases e:canP p with
     | false=>rfl
     | true=>rw [em,e] at h; exact absurd rfl h
    rw [er,<-Bool.not_eq_true]
    intro hcl
    have:=List.all_eq_true.1 hcl p hf.m1
    rw [hc] at this; cases this
   have hge0:std.ic .geq i 0=true:=by show decide (0<=i)=true; exact decide_eq_true h0
   clear hf h h2 em h0 h1 hlt g
   cbv
   refine Need.mk (by subst hE; exact hin) ?_
   cbv
   refine CallTo.w hP hE kc ⟨(by subst hE; exact congrArg (fun p:Pt=>p.v) hget),trivial⟩ ?_
   cbv
   refine fork.mk ?_ ?_
   ·intro g
    have hr:=hno (by subst hE; have g:std.ic .neq m 0=true:=g; simpa using g)
    cbv
    subst hE
    exact congrArg Value.bool ((show (!std.ic .geq i 0)=false by rw [hge0]; rfl).trans hr.symm)
   ·intro g
    have hr:=hst (by subst hE; have g:std.ic .neq m 0=false:=g; simpa using g)
    cbv
    refine ⟨j,[],hr,hmu,?_⟩
    cbv
    subst hE
    and_intros
    all_goals first
     | exact True.intro
     | rfl
     | exact vi hj
     | exact vj hj
     | (simp; done)
  ·intro g
   have hn:n=(ps.length:Int):=hn
   have hge:¬ i < n:=by subst hE; simpa [std] using g
   rw [List.take_of_length_le (by omega)] at h2
   have hr:r=true:=by rw [er]; exact h2
   cbv
   exact congrArg Value.bool hr.symm
abbrev z0:Pt:=⟨⟨false,⟨#[]⟩,⟨#[]⟩⟩,⟨false,⟨#[]⟩,⟨#[]⟩⟩⟩
theorem forkYes {b:Bool} {x y:Unit->Prop} (h:b=true) (hx:x ()):fork b x y:=⟨fun _=>hx,fun e=>by rw [h] at e; cases e⟩
theorem forkNo {b:Bool} {x y:Unit->Prop} (h:b=false) (hy:y ()):fork b x y:=⟨fun e=>(by rw [h] at e; cases e),fun _=>hy⟩
/-- What slices.Concat of two lists (of X and Y points) asks for. -/
structure CatF (X Y:Int):Prop where
 f1:std.ic .lss (std.ib .add .i64 0 X) 0=false
 f2:std.ic .lss (std.ib .add .i64 (std.ib .add .i64 0 X) Y) 0=false
 f3:std.ic .gtr (std.ib .sub .i64 (std.ib .add .i64 (std.ib .add .i64 0 X) Y) 0) 0=true
 r3:std.rng 1 (std.ib .sub .i64 (std.ib .add .i64 (std.ib .add .i64 0 X) Y) 0) (std.ib .sub .i64 (std.ib .add .i64 (std.ib .add .i64 0 X) Y) 0)/\std.fits (std.ib .sub .i64 (std.ib .add .i64 (std.ib .add .i64 0 X) Y) 0) 80
 r4:std.rng 0 0 (std.ib .sub .i64 (std.ib .add .i64 (std.ib .add .i64 0 X) Y) 0)
theorem CatF.of {X Y:Int} (h0:0<=X) (h1:0<=Y) (h2:1<=X+Y) (h3:X+Y<=100000):CatF X Y:=by
 have q1:std.ib .add .i64 0 X=X:=by rw [s_add,w64 (by omega) (by omega)]; omega
 have q2:std.ib .add .i64 X Y=X+Y:=by rw [s_add,w64 (by omega) (by omega)]
 have q3:std.ib .sub .i64 (X+Y) 0=X+Y:=by rw [s_sub,w64 (by omega) (by omega)]; omega
 constructor
 ·rw [q1]; exact decide_eq_false (by omega)
 ·rw [q1,q2]; exact decide_eq_false (by omega)
 ·rw [q1,q2,q3]; exact decide_eq_true (by omega)
 ·rw [q1,q2,q3,s_fits]
  refine ⟨⟨by omega,by omega,by omega⟩,?_⟩
  show 0<=X+Y/\X+Y<=_/\(X+Y)*80<=_
  omega
 ·rw [q1,q2,q3]; exact ⟨by omega,by omega,by omega⟩
/-- The row that slices.Concat yields. -/
structure CatR (X Y:Int) (d1 d2 rs:List Pt):Prop where
 t1:std.fits (std.ad 0 (std.len Pt d1)) 80
 t2:std.fits (std.ad (std.ad 0 (std.len Pt d1)) (std.len Pt d2)) 80
 row:std.app Pt (std.tk Pt (std.app Pt (std.tk Pt (std.rep Pt (std.ib .sub .i64 (std.ib .add .i64 (std.ib .add .i64 0 X) Y) 0) zQ) 0) d1) (std.ad 0 (std.len Pt d1))) d2=rs
 tk:std.tk Pt rs (std.ad (std.ad 0 (std.len Pt d1)) (std.len Pt d2))=rs
 ln:std.ad (std.ad 0 (std.len Pt d1)) (std.len Pt d2)=(rs.length:Int)
theorem CatR.of {X Y:Int} {d1 d2:List Pt} (h1:d1.length+d2.length<=100000):CatR X Y d1 d2 (d1++d2):=by
 have e1:std.ad 0 (std.len Pt d1)=(d1.length:Int):=by show 0+(d1.length:Int)=_; omega
 have e2:std.ad (d1.length:Int) (std.len Pt d2)=((d1++d2).length:Int):=by show (d1.length:Int)+(d2.length:Int)=_; rw [List.length_append]; omega
 constructor
 ·rw [e1,s_fits]
  show 0<=(d1.length:Int)/\(d1.length:Int)<=_/\(d1.length:Int)*80<=_
  omega
 ·rw [e1,e2,s_fits]
  have:(d1++d2).length=d1.length+d2.length:=List.length_append
  show 0<=((d1++d2).length:Int)/\((d1++d2).length:Int)<=_/\((d1++d2).length:Int)*80<=_
  omega
 ·rw [e1,s_app,s_app,s_tk,s_tk,List.take_of_length_le (by simp)]
  simp
 ·rw [e1,e2,s_tk]; exact List.take_of_length_le (by omega)
 ·rw [e1,e2]
theorem mgl_one {n:Nat} (h0:n ≠ 0) (h:n < 256):mgl n=[UInt8.ofNat n]:=by
 rw [mgl_pos h0,Nat.div_eq_of_lt h,mgl_zero,Nat.mod_eq_of_lt h]; rfl
theorem mg_one {n:Nat} (h0:n ≠ 0) (h:n < 256):mg n=⟨#[UInt8.ofNat n]⟩:=by
 unfold mg; rw [mgl_one h0 h]
theorem num12:(((1:Int):Rat) / ((2:Int):Rat)).num=1:=by decide +kernel
theorem den12:(((1:Int):Rat) / ((2:Int):Rat)).den=2:=by decide +kernel
theorem cr12:cr (((1:Int):Rat) / ((2:Int):Rat))=⟨false,⟨#[1]⟩,⟨#[2]⟩⟩:=by
 unfold cr
 rw [num12,den12,if_neg (by decide),show (1:Int).natAbs=1 from rfl,mg_one (by decide) (by decide),mg_one (by decide) (by decide)]
 rfl
theorem half_q:(⟨false,⟨#[1]⟩,⟨#[2]⟩⟩:R).q=((1:Int):Rat) / ((2:Int):Rat):=by
 rw [<-cr12]; exact cr_q _
theorem xhalf_q {a:R} {x:Rat} {k:Nat} (ha:Is k a x) (h:k+8<=134217728):Con Tryz.prog 185 [.v a.v] (.v (cr (x / ((2:Int):Rat))).v):=by
 have hh:Is 8 (⟨false,⟨#[1]⟩,⟨#[2]⟩⟩:R) (((1:Int):Rat) / ((2:Int):Rat)):=by
  have:=Is.of (k:=8) (⟨false,⟨#[1]⟩,⟨#[2]⟩⟩:R) (by decide) (by decide) (by decide)
  rwa [half_q] at this
 have c1:=xmul_q ha hh h
 have e:x*(((1:Int):Rat) / ((2:Int):Rat))=x / ((2:Int):Rat):=by
  rw [Rat.div_def,Rat.div_def]
  have:((1:Int):Rat)=1:=rfl
  rw [this,Rat.one_mul]
 rw [e] at c1
 obtain ⟨r,hr⟩:∃ r,r=cr (x / ((2:Int):Rat)):=⟨_,rfl⟩
 rw [<-hr] at c1 ⊢
 clear hr hh e
 refine Con.of ttOk mixed Tryz.func185 {} .nil 0 (by kernel_rfl) (fun P' E hP hE=>?_)
 cbv
 refine CallTo.w hP hE c1 ⟨rfl,rfl,trivial⟩ ?_
 cbv
theorem xchk_q {a:R} {x:Rat} {k:Nat} (ha:Is k a x) (h:k<=134217728):Con Tryz.prog 204 [.v a.v] (.v (.int .i64 (if canR a=true then 0 else 1))):=by
 have hq:canR a=eqCells a.c (cr x).c:=by unfold canR; rw [ha.q]
 obtain ⟨m,em⟩:∃ m:Int,m=if canR a=true then 0 else 1:=⟨_,rfl⟩
 rw [<-em]
 rw [hq] at em
 have c2:=xnorm_q ha h
 obtain ⟨r,hr⟩:∃ r,r=cr x:=⟨_,rfl⟩
 rw [<-hr] at c2 em
 have w1:¬ r=a->1=m:=fun h=>by rw [em,if_neg]; exact fun c=>h ((eqc_R a r).1 c).symm
 have w2:r=a->0=m:=fun h=>by rw [em,if_pos]; exact (eqc_R a r).2 h.symm
 clear hq hr em
 refine Con.of ttOk mixed Tryz.func204 { ord:=[(1,[0,2,1,3])] } .nil 0 (by kernel_rfl) (fun P' E hP hE=>?_)
 cbv
 refine CallTo.w hP hE c2 ⟨rfl,trivial⟩ ?_
 cbv
 refine fork.mk ?_ ?_
 ·intro g
  have hne:¬ r=a:=by
   subst hE
   have g:(!eqCells r.c a.c)=true:=g
   exact fun e=>by rw [(eqc_R r a).2 e] at g; exact absurd g (by decide)
  have hr:=w1 hne
  cbv
  exact vj hr
 ·intro g
  have he:r=a:=by
   subst hE
   have g:(!eqCells r.c a.c)=false:=g
   exact (eqc_R r a).1 (by simpa using g)
  have hr:=w2 he
  cbv
  exact vj hr
theorem ychk_q' {a:Pt} {A:Pq} {k:Nat} (ha:IsP k a A) (h:k<=134217728):Con Tryz.prog 117 [.v a.v] (.v (.int .i64 (if canP a=true then 0 else 1))):=by
 obtain ⟨m,em⟩:∃ m:Int,m=if canP a=true then 0 else 1:=⟨_,rfl⟩
 rw [<-em]
 unfold canP at em
 have c1:=xchk_q ha.x h
 have c2:=xchk_q ha.y h
 obtain ⟨m1,e1⟩:∃ m:Int,m=if canR a.x=true then 0 else 1:=⟨_,rfl⟩
 obtain ⟨m2,e2⟩:∃ m:Int,m=if canR a.y=true then 0 else 1:=⟨_,rfl⟩
 rw [<-e1] at c1
 rw [<-e2] at c2
 have w1:¬ m1=0->1=m:=fun h=>by
  rw [em,if_neg]
  intro c
  apply h
  rw [e1,if_pos (by simp at c; exact c.1)]
 have w2:¬ m2=0->1=m:=fun h=>by
  rw [em,if_neg]
  intro c
  apply h
  rw [e2,if_pos (by simp at c; exact c.2)]
 have w3:m1=0->m2=0->0=m:=fun h h'=>by
  rw [em,if_pos]
  have k1:canR a.x=true:=Classical.byContradiction fun c=>by rw [e1,if_neg c] at h; exact absurd h (by decide)
  have k2:canR a.y=true:=Classical.byContradiction fun c=>by rw [e2,if_neg c] at h'; exact absurd h' (by decide)
  rw [k1,k2]; rfl
 clear em e1 e2 ha
 refine Con.of ttOk mixed Tryz.func117 {} .nil 0 (by kernel_rfl) (fun P' E hP hE=>?_)
 cbv
 refine CallTo.w hP hE c1 ⟨rfl,trivial⟩ ?_
 cbv
 refine fork.mk ?_ ?_
 ·intro g
  have hr:=w1 (by subst hE; simpa [std] using g)
  cbv
  exact vj hr
 ·intro g
  have h1:m1=0:=by subst hE; simpa [std] using g
  cbv
  refine CallTo.w hP hE c2 ⟨rfl,trivial⟩ ?_
  cbv
  refine fork.mk ?_ ?_
  ·intro g
   have hr:=w2 (by subst hE; simpa [std] using g)
   cbv
   exact vj hr
  ·intro g
   have hr:=w3 h1 (by subst hE; simpa [std] using g)
   cbv
   exact vj hr
theorem ycanL_q {k:Nat} {ps:List Pt} (hp:∀ p ∈ ps,IsP k p p.q) (hk:k<=134217728) (hl:ps.length<=140737488355328):Con Tryz.prog 100 [.ro cP ps] (.v (.bool (canL ps))):=by
 obtain ⟨r,er⟩:∃ r,r=canL ps:=⟨_,rfl⟩
 rw [<-er]
 obtain ⟨n,hn⟩:∃ n:Int,n=ps.length:=⟨_,rfl⟩
 have hln:std.len Pt ps=n:=by rw [s_len,hn]
 obtain ⟨i0,hi0⟩:∃ i:Int,i=0:=⟨_,rfl⟩
 have hp0:0<=i0/\i0<=n/\canL (ps.take i0.toNat)=true:=⟨by omega,by omega,by rw [hi0]; rfl⟩
 refine Con.of ttOk mixed Tryz.func100 {} .nil 0 (by kernel_rfl) (fun P' E hP hE=>?_)
 cbv
 refine LoopTo.by (ι:=Int) (fun x=>[(3,.v (.int .i64 x))]) (fun x=>[]) (fun x=>0<=x/\x<=n/\canL (ps.take x.toNat)=true) (fun x=>(n - x).toNat) i0 [] hp0 ?_ ?_
 ·cbv
  subst hE
  and_intros
  all_goals first
   | exact True.intro
   | rfl
   | exact vi hi0.symm
   | exact vj hi0.symm
   | (simp; done)
 ·intro i hi
  have h0:0<=i:=hi.1
  have h1:i<=n:=hi.2.1
  have h2:canL (ps.take i.toNat)=true:=hi.2.2
  clear hi hp0
  cbv
  refine fork.mk ?_ ?_
  ·intro g
   have hn:n=(ps.length:Int):=hn
   have hlt:i < n:=by subst hE; rw [<-hln]; simpa [std] using g
   refine Exists.elim (lstF_ex hn hl h0 hlt) ?_
   intro j h
   refine Exists.elim h ?_
   intro p hf
   have kc:=ychk_q' (hp p hf.m1) hk
   obtain ⟨m,em⟩:∃ m:Int,m=if canP p=true then 0 else 1:=⟨_,rfl⟩
   rw [<-em] at kc
   have hin:=hf.in1
   have hget:=hf.g1
   have hj:=hf.add
   have hmu:=hf.mu
   have hst:m=0->0<=j/\j<=n/\canL (ps.take j.toNat)=true:=fun h=>⟨hf.j0,hf.j1,by
    have hc:canP p=true:=by
     cases e:canP p with
     | true=>rfl
     | false=>rw [em,e] at h; cases h
    rw [hf.tk]; unfold canL at h2 ⊢; rw [List.all_append,h2]; simp [hc]⟩
   have hno:m ≠ 0->r=false:=fun h=>by
    have hc:canP p=false:=by
     cases e:canP p with
     | false=>rfl
     | true=>rw [em,e] at h; exact absurd rfl h
    rw [er,<-Bool.not_eq_true]
    intro hcl
    have:=List.all_eq_true.1 hcl p hf.m1
    rw [hc] at this; cases this
   clear hf h h2 em h0 h1 hlt g
   cbv
   refine Need.mk (by subst hE; exact hin) ?_
   cbv
   refine CallTo.w hP hE kc ⟨(by subst hE; exact congrArg (fun p:Pt=>p.v) hget),trivial⟩ ?_
   cbv
   refine fork.mk ?_ ?_
   ·intro g
    have hr:=hno (by subst hE; simpa [std] using g)
    cbv
    exact congrArg Value.bool hr.symm
   ·intro g
    have hr:=hst (by subst hE; simpa [std] using g)
    cbv
    refine ⟨j,[],hr,hmu,?_⟩
    cbv
    subst hE
    and_intros
    all_goals first
     | exact True.intro
     | rfl
     | exact vi hj
     | exact vj hj
     | (simp; done)
  ·intro g
   have hn:n=(ps.length:Int):=hn
   have hge:¬ i < n:=by subst hE; rw [<-hln]; simpa [std] using g
   rw [List.take_of_length_le (by omega)] at h2
   have hr:r=true:=by rw [er]; exact h2
   cbv
   exact congrArg Value.bool hr.symm
/-- The next point. -/
theorem next_q {ps:List Pt} {n i j r:Int} {p q:Pt} (hn:n=(ps.length:Int)) (he:EdgF ps n i j r p q):Con Tryz.prog 177 [.ro cP ps,.v (.int .i64 i)] (.v q.v):=by
 have hadd:=he.add
 have hnz:std.nz .rem (std.len Pt ps):=by show (ps.length:Int) ≠ 0; have:=he.nz; rw [<-hn]; exact this
 have hrem:std.ib .rem .i64 (std.ib .add .i64 i 1) (std.len Pt ps)=r:=by rw [hadd,s_len,<-hn]; exact he.rem
 have in2:0<=std.ib .rem .i64 (std.ib .add .i64 i 1) (std.len Pt ps)/\std.ib .rem .i64 (std.ib .add .i64 i 1) (std.len Pt ps) < (ps.length:Int):=by rw [hrem,<-hn]; exact he.in2
 have hg2:std.get Pt ps (std.ib .rem .i64 (std.ib .add .i64 i 1) (std.len Pt ps)) zQ=q:=by rw [hrem]; exact he.g2
 clear he hrem hadd
 refine Con.of ttOk mixed Tryz.func177 {} .nil 0 (by kernel_rfl) (fun P' E hP hE=>?_)
 cbv
 refine Need.mk (by subst hE; exact hnz) ?_
 cbv
 refine Need.mk (by subst hE; exact in2) ?_
 cbv
 subst hE
 exact congrArg (fun p:Pt=>p.v) hg2
theorem zbtw_q {a b p:Pt} {A B P:Pq} {k:Nat} (ha:IsP k a A) (hb:IsP k b B) (hp:IsP k p P) (hk:16*k+16<=134217728):Con Tryz.prog 277 [.v a.v,.v b.v,.v p.v] (.v (.bool (btwQ A B P))):=by
 rw [<-btwD_eq]
 obtain ⟨r,er⟩:∃ r,r=btwD A B P:=⟨_,rfl⟩
 rw [<-er]
 obtain ⟨o,eo,ko⟩:=yor_p ha hb hp hk
 obtain ⟨u,eu,hu,ku⟩:=ysub_p ha hp (by omega)
 obtain ⟨v,ev,hv,kv⟩:=ysub_p hb hp (by omega)
 obtain ⟨d,ed,hd,kd⟩:=ydot_p hu hv (by omega)
 obtain ⟨m,em,km⟩:=xsign_p hd (by omega)
 have w1:¬ o=0->false=r:=fun h=>by
  rw [er]; unfold btwD; rw [decide_eq_false]; rw [<-eo]; exact fun c=>h c.1
 have w2:o=0->std.ic .leq m 0=r:=fun h=>by
  rw [er,em]; unfold btwD
  show decide (cmpQ _ 0<=0)=decide _
  rw [<-eo]
  simp only [h,true_and]
 clear er eo eu hu ev hv ed hd em ha hb hp
 refine Con.of ttOk mixed Tryz.func277 { ord:=[(3,[0,1,3,4,2,5,6,7,8,9])] } .nil 0 (by kernel_rfl) (fun P' E hP hE=>?_)
 cbv
 refine CallTo.w hP hE ko ⟨rfl,rfl,rfl,trivial⟩ ?_
 cbv
 refine fork.mk ?_ ?_
 ·intro g
  have hr:=w1 (by subst hE; simpa [std] using g)
  cbv
  exact congrArg Value.bool hr
 ·intro g
  have hr:=w2 (by subst hE; simpa [std] using g)
  cbv
  refine CallTo.w hP hE ku ⟨rfl,rfl,trivial⟩ ?_
  cbv
  refine CallTo.w hP hE kv ⟨rfl,rfl,trivial⟩ ?_
  cbv
  refine CallTo.w hP hE kd ⟨rfl,rfl,trivial⟩ ?_
  cbv
  refine CallTo.w hP hE km ⟨rfl,trivial⟩ ?_
  cbv
  subst hE
  exact congrArg Value.bool hr
abbrev tiFn:TI:={ kind:=0,sz:=1,zero:=[Value.nilFunc],flds:=[],elem:=0,ik:=.i64,eq:=false,len:=0,bytes:=8,cd:=none }
theorem tyFn:TyOk Tryz.prog 34 tiFn:=⟨by kernel_rfl,by kernel_rfl,(fun _=>⟨_,rfl,rfl⟩),rfl,(fun _ h=>by cases h),(fun h=>by cases h)⟩
def ttF:Tab:=(34,tiFn)::tt
theorem ttFOk:TabOk Tryz.prog ttF:=.cons tyFn ttOk
theorem odd_ok:InlOk Tryz.prog [(111,Tryz.f111,{}),(201,Tryz.f201,{ ord:=[(3,.op 0 (.op 1 (.op 2 (.op 3 (.op 4 (.op 5 (.op 6 (.op 7 (.op 8 (.op 9 (.wr 10 (.op 11 .nil))))))))))))] }),(203,Tryz.f203,{})]:=
 InlOk.cons Tryz.func111 (by kernel_rfl) (InlOk.cons Tryz.func201 (by kernel_rfl) (InlOk.cons Tryz.func203 (by kernel_rfl) .nil))
/-- What the loop holds. -/
structure OddI (ps:List Pt) (P:Pq) (n i:Int) (b:Bool):Prop where
 h0:0<=i
 h1:i<=n
 eq:b=parE P ((edgesQ (ps.map Pt.q)).take i.toNat)
/-- A round. -/
structure OddF (ps:List Pt) (z:Pt) (P:Pq) (n i:Int) (b:Bool) (j r:Int) (p q:Pt) (ma mb o1 o2:Int):Prop where
 e:EdgF ps n i j r p q
 ca:Con Tryz.prog 88 [.v p.y.v,.v z.y.v] (.v (.int .i64 ma))
 cb:Con Tryz.prog 88 [.v q.y.v,.v z.y.v] (.v (.int .i64 mb))
 or1:Con Tryz.prog 28 [.v p.v,.v q.v,.v z.v] (.v (.int .i64 o1))
 or2:Con Tryz.prog 28 [.v q.v,.v p.v,.v z.v] (.v (.int .i64 o2))
 up:0 < ma->0 < o2->¬ 0 < mb->OddI ps P n j (!b)
 upn:0 < ma->(¬ 0 < o2\/0 < mb)->OddI ps P n j b
 dn:¬ 0 < ma->0 < mb->0 < o1->OddI ps P n j (!b)
 dnn:¬ 0 < ma->(¬ 0 < mb\/¬ 0 < o1)->OddI ps P n j b
theorem oddF_ex {k:Nat} {ps:List Pt} (hp:∀ p ∈ ps,IsP k p p.q) (hl:ps.length<=4096) (hk:16*k+16<=134217728) {z:Pt} {P:Pq} (hz:IsP k z P) {n i:Int} {b:Bool} (hn:n=(ps.length:Int)) (h:OddI ps P n i b) (hi:i < n):∃ j r p q ma mb o1 o2,OddF ps z P n i b j r p q ma mb o1 o2:=by
 obtain ⟨j,r,p,q,he⟩:=edgF_ex hn hl h.h0 hi
 obtain ⟨ma,ea,ka⟩:=cmp_p (hp p he.m1).y hz.y (by omega)
 obtain ⟨mb,eb,kb⟩:=cmp_p (hp q he.m2).y hz.y (by omega)
 obtain ⟨o1,e1,k1⟩:=orient_p (hp p he.m1) (hp q he.m2) hz (by omega)
 obtain ⟨o2,e2,k2⟩:=orient_p (hp q he.m2) (hp p he.m1) hz (by omega)
 have hst:OddI ps P n j (if oddE P ⟨p.q,q.q⟩=true then !b else b):=⟨he.j0,he.j1,by rw [he.st,parE_snoc,h.eq]⟩
 have hu:∀ m x:Int,(upQ p.q P=true ↔ 0 < ma):=fun _ _=>by unfold upQ; rw [decide_eq_true_iff,ea]
 have ua:upQ p.q P=decide (0 < ma):=by unfold upQ; rw [ea]
 have ub:upQ q.q P=decide (0 < mb):=by unfold upQ; rw [eb]
 have hodd:oddE P ⟨p.q,q.q⟩=if 0 < ma then (!decide (0 < mb) && (decide (0 < ma) && decide (0 < o2))) else (!decide (0 < ma) && (decide (0 < mb) && decide (0 < o1))):=by
  unfold oddE
  simp only
  rw [ua,ub,e1,e2]
  by_cases c:0 < cmpQ p.q.y P.y<;>simp [c]
 refine ⟨j,r,p,q,ma,mb,o1,o2,he,ka,kb,k1,k2,fun c1 c2 c3=>?_,fun c1 c2=>?_,fun c1 c2 c3=>?_,fun c1 c2=>?_⟩
 ·rw [hodd,if_pos c1,decide_eq_true c1,decide_eq_true c2,decide_eq_false c3] at hst; exact hst
 ·rw [hodd,if_pos c1] at hst
  rcases c2 with c2 | c2
  ·simpa [c2] using hst
  ·simpa [c2] using hst
 ·rw [hodd,if_neg c1,decide_eq_false c1,decide_eq_true c2,decide_eq_true c3] at hst; exact hst
 ·rw [hodd,if_neg c1] at hst
  rcases c2 with c2 | c2
  ·simpa [c2] using hst
  ·simpa [c2] using hst
theorem odd_q {k:Nat} {ps:List Pt} (hp:∀ p ∈ ps,IsP k p p.q) (hl:ps.length<=4096) (hk:16*k+16<=134217728) {z:Pt} {P:Pq} (hz:IsP k z P):Con Tryz.prog 116 [.ro cP ps,.v z.v] (.v (.bool (oddQ (ps.map Pt.q) P))):=by
 obtain ⟨r0,e0⟩:∃ r,r=oddQ (ps.map Pt.q) P:=⟨_,rfl⟩
 rw [<-e0]
 obtain ⟨n,hn⟩:∃ n:Int,n=ps.length:=⟨_,rfl⟩
 obtain ⟨i0,hi0⟩:∃ i:Int,i=0:=⟨_,rfl⟩
 obtain ⟨b0,hb0⟩:∃ b:Bool,b=false:=⟨_,rfl⟩
 have hp0:OddI ps P n i0 b0:=⟨by omega,by omega,by rw [hb0,hi0]; rfl⟩
 have hrnd:∀ i b,OddI ps P n i b->i < n->∃ j r p q ma mb o1 o2,OddF ps z P n i b j r p q ma mb o1 o2:=fun i b h h'=>oddF_ex hp hl hk hz hn h h'
 have hfin:∀ i b,OddI ps P n i b->¬ i < n->b=r0:=fun i b h h'=>by
  have h1:=h.h1
  rw [h.eq,e0,edges_all (by rw [List.length_map]; omega)]; rfl
 clear e0
 refine Con.of ttFOk mixed Tryz.func116 {} odd_ok 5 (by kernel_rfl) (fun P' E hP hE=>?_)
 cbv
 refine LoopTo.by (ι:=Int × Bool) (fun x=>[(6,.v (.int .i64 n)),(7,.v (.int .i64 x.1))]) (fun x=>[(4,.cells [.v (.bool x.2)] 4)]) (fun x=>OddI ps P n x.1 x.2) (fun x=>(n - x.1).toNat) (i0,b0) [] hp0 ?_ ?_
 ·cbv
  subst hE
  and_intros
  all_goals first
   | exact True.intro
   | rfl
   | exact vi hn.symm
   | exact vj hi0.symm
   | exact congrArg (fun x=>AV.v (Value.bool x)) hb0.symm
   | (intro h; cases h; done)
   | (simp [hb0]; done)
 ·rintro ⟨i,b⟩ hi
  have hi:OddI ps P n i b:=hi
  clear hp0
  cbv
  refine fork.mk ?_ ?_
  ·intro g
   have hlt:i < n:=by subst hE; simpa [std] using g
   refine Exists.elim (hrnd i b hi hlt) ?_
   intro j h
   refine Exists.elim h ?_
   intro r h
   refine Exists.elim h ?_
   intro p h
   refine Exists.elim h ?_
   intro q h
   refine Exists.elim h ?_
   intro ma h
   refine Exists.elim h ?_
   intro mb h
   refine Exists.elim h ?_
   intro o1 h
   refine Exists.elim h ?_
   intro o2 hf
   have hn:n=(ps.length:Int):=hn
   have in1:0<=i/\i < (ps.length:Int):=by rw [<-hn]; exact hf.e.in1
   have hadd:=hf.e.add
   have hnz:std.nz .rem (std.len Pt ps):=by show (ps.length:Int) ≠ 0; have:=hf.e.nz; rw [<-hn]; exact this
   have hrem:std.ib .rem .i64 (std.ib .add .i64 i 1) (std.len Pt ps)=r:=by rw [hadd,s_len,<-hn]; exact hf.e.rem
   have in2:0<=std.ib .rem .i64 (std.ib .add .i64 i 1) (std.len Pt ps)/\std.ib .rem .i64 (std.ib .add .i64 i 1) (std.len Pt ps) < (ps.length:Int):=by rw [hrem,<-hn]; exact hf.e.in2
   have hg1:=hf.e.g1
   have hg2:std.get Pt ps (std.ib .rem .i64 (std.ib .add .i64 i 1) (std.len Pt ps)) zQ=q:=by rw [hrem]; exact hf.e.g2
   have ka:=hf.ca
   have kb:=hf.cb
   have k1:=hf.or1
   have k2:=hf.or2
   have hup:=hf.up
   have hupn:=hf.upn
   have hdn:=hf.dn
   have hdnn:=hf.dnn
   have hmu:=hf.e.mu
   clear hf h hi hlt g
   cbv
   refine Need.mk (by subst hE; exact in1) ?_
   cbv
   refine Need.mk (by subst hE; exact hnz) ?_
   cbv
   refine Need.mk (by subst hE; exact in2) ?_
   cbv
   refine CallTo.w hP hE ka ⟨(by subst hE; exact congrArg (fun p:Pt=>p.y.v) hg1),rfl,trivial⟩ ?_
   cbv
   refine fork.mk ?_ ?_
   ·intro g1
    have c1:0 < ma:=by subst hE; simpa [std] using g1
    cbv
    refine CallTo.w hP hE kb ⟨(by subst hE; exact congrArg (fun p:Pt=>p.y.v) hg2),rfl,trivial⟩ ?_
    cbv
    refine fork.mk ?_ ?_
    ·intro g2
     have c2:¬ 0 < mb:=by subst hE; simpa [std] using g2
     cbv
     refine CallTo.w hP hE ka ⟨(by subst hE; exact congrArg (fun p:Pt=>p.y.v) hg1),rfl,trivial⟩ ?_
     cbv
     refine fork.mk ?_ ?_
     ·intro g2
      cbv
      refine CallTo.w hP hE k2 ⟨(by subst hE; exact congrArg (fun p:Pt=>p.v) hg2),(by subst hE; exact congrArg (fun p:Pt=>p.v) hg1),rfl,trivial⟩ ?_
      cbv
      refine fork.mk ?_ ?_
      ·intro g2
       have c3:0 < o2:=by subst hE; simpa [std] using g2
       cbv
       refine ⟨(j,!b),[],hup c1 c3 c2,hmu,?_⟩
       cbv
       subst hE
       and_intros
       all_goals first
        | exact True.intro
        | rfl
        | exact vi hadd
        | exact vj hadd
        | (simp; done)
        | (intro h; cases h; done)
      ·intro g2
       have c3:¬ 0 < o2:=by subst hE; simpa [std] using g2
       cbv
       refine ⟨(j,b),[],hupn c1 (Or.inl c3),hmu,?_⟩
       cbv
       subst hE
       and_intros
       all_goals first
        | exact True.intro
        | rfl
        | exact vi hadd
        | exact vj hadd
        | (simp; done)
        | (intro h; cases h; done)
     ·intro g2
      have c3:¬ 0 < ma:=by subst hE; simpa [std] using g2
      exact absurd c1 c3
    ·intro g2
     have c2:0 < mb:=by subst hE; simpa [std] using g2
     cbv
     refine ⟨(j,b),[],hupn c1 (Or.inr c2),hmu,?_⟩
     cbv
     subst hE
     and_intros
     all_goals first
      | exact True.intro
      | rfl
      | exact vi hadd
      | exact vj hadd
      | (simp; done)
      | (intro h; cases h; done)
   ·intro g1
    have c1:¬ 0 < ma:=by subst hE; simpa [std] using g1
    cbv
    refine CallTo.w hP hE ka ⟨(by subst hE; exact congrArg (fun p:Pt=>p.y.v) hg1),rfl,trivial⟩ ?_
    cbv
    refine fork.mk ?_ ?_
    ·intro g2
     cbv
     refine CallTo.w hP hE kb ⟨(by subst hE; exact congrArg (fun p:Pt=>p.y.v) hg2),rfl,trivial⟩ ?_
     cbv
     refine fork.mk ?_ ?_
     ·intro g2
      have c2:0 < mb:=by subst hE; simpa [std] using g2
      cbv
      refine CallTo.w hP hE k1 ⟨(by subst hE; exact congrArg (fun p:Pt=>p.v) hg1),(by subst hE; exact congrArg (fun p:Pt=>p.v) hg2),rfl,trivial⟩ ?_
      cbv
      refine fork.mk ?_ ?_
      ·intro g2
       have c3:0 < o1:=by subst hE; simpa [std] using g2
       cbv
       refine ⟨(j,!b),[],hdn c1 c2 c3,hmu,?_⟩
       cbv
       subst hE
       and_intros
       all_goals first
        | exact True.intro
        | rfl
        | exact vi hadd
        | exact vj hadd
        | (simp; done)
        | (intro h; cases h; done)
      ·intro g2
       have c3:¬ 0 < o1:=by subst hE; simpa [std] using g2
       cbv
       refine ⟨(j,b),[],hdnn c1 (Or.inr c3),hmu,?_⟩
       cbv
       subst hE
       and_intros
       all_goals first
        | exact True.intro
        | rfl
        | exact vi hadd
        | exact vj hadd
        | (simp; done)
        | (intro h; cases h; done)
     ·intro g2
      have c2:¬ 0 < mb:=by subst hE; simpa [std] using g2
      cbv
      refine ⟨(j,b),[],hdnn c1 (Or.inl c2),hmu,?_⟩
      cbv
      subst hE
      and_intros
      all_goals first
       | exact True.intro
       | rfl
       | exact vi hadd
       | exact vj hadd
       | (simp; done)
       | (intro h; cases h; done)
    ·intro g2
     have c2:0 < ma:=by subst hE; simpa [std] using g2
     exact absurd c2 c1
  ·intro g
   have hge:¬ i < n:=by subst hE; simpa [std] using g
   have hx:=hfin i b hi hge
   clear hi hge hfin hrnd g
   subst hx
   cbv
def St.nilC (s:St) (b o:Nat) (cs:List AV) (ty e:TypeId) (cd:Cd):St:=⟨s.t,s.h.set b (.cells (cs.set o (.s s.h.length 0)) ty)++[.row true e cd []]⟩
theorem LoopTo.nilC {P:Program} {m:Nat} {c:Unit->Code} {B:Unit->(X->St->Prop)->St->Prop} {K:X->St->Prop} {s:St} (b o:Nat) {cs:List AV} {ty:TypeId} (e:TypeId) (cd:Cd) (hc:cd.Ok) (hb:s.h[b]?=some (.cells cs ty)) (hk:cs[o]?=some (.v (.slice none 0 0))) (h:LoopTo P m c B K (s.nilC b o cs ty e cd)):LoopTo P m c B K s:=by
 refine ⟨fun ro hB w0 β0 β M a w ht hw hx=>?_⟩
 have hblt:b < s.h.length:=(List.getElem?_eq_some_iff.1 hb).1
 have hadd:=hw.add (b:=.row true e cd []) (l:=⟨0,none,0,cd.sz,0⟩) ⟨hc,rfl,rfl,World.ownsRow_nil _ _ _ _⟩ trivial (fun g hg=>by simp [Blk.occ] at hg) (fun _ _ _ e=>by cases e)
 have hb2:(s.h++[Blk.row true e cd []])[b]?=some (.cells cs ty):=by rw [List.getElem?_append_left hblt]; exact hb
 obtain ⟨vs,hg,hvs⟩:=hadd.blk b _ hb2
 obtain ⟨u,hu,hr⟩:=AVRs_get hvs hk
 simp only [AVR] at hr
 subst hr
 have hset:vs.toList.set o (.slice none 0 0)=vs.toList:=by
  apply List.ext_getElem?
  intro j
  rw [List.getElem?_set]
  split
  ·rename_i e; subst e
   rw [hu]
   split
   ·rfl
   ·rename_i hlt; exact absurd (List.getElem?_eq_some_iff.1 hu).1 hlt
  ·rfl
 have hvs2:AVRs (grow β s.h.length ⟨0,none,0,cd.sz,0⟩) (cs.set o (.s s.h.length 0)) vs.toList:=by
  have h2:=hvs.set (x:=.s s.h.length 0) (u:=.slice none 0 0) (avr_s (by omega) (by rw [grow_at]; simp) (by rw [grow_at]; simp)) o
  rw [hset] at h2; exact h2
 have hok:(Blk.cells cs ty).okh (s.h++[Blk.row true e cd []]).length:=hadd.okh _ (List.mem_of_getElem? hb2)
 have hch:=hadd.change hb2 (blk':=.cells (cs.set o (.s s.h.length 0)) ty) (by
  simp only [Blk.okh] at hok ⊢
  exact oks_set hok (by simp only [AV.ok,List.length_append,List.length_singleton]; omega) o) (g:=((grow β s.h.length ⟨0,none,0,cd.sz,0⟩) b).g) rfl rfl ⟨vs,hg,hvs2⟩ (fun _ _=>rfl) (Nat.le_refl _) rfl rfl rfl
 rw [List.set_append_left _ _ hblt] at hch
 refine h.out ro hB w0 β0 (grow β s.h.length ⟨0,none,0,cd.sz,0⟩) M a w ?_ hch ?_
 ·have e1:(s.nilC b o cs ty e cd).h.length=s.h.length+1:=by simp [St.nilC]
  rw [e1]
  exact ht.grow ⟨0,none,0,cd.sz,0⟩
 ·exact ⟨by have:=hx.1; simp [St.nilC]; omega,fun i hi=>by rw [grow_lt (Nat.lt_of_lt_of_le hi hx.1),hx.2 i hi]⟩
def edgeP (ps:List Pt) (i:Nat):Sg:=⟨ps.getD i zQ,ps.getD ((i+1) % ps.length) zQ⟩
def edgesP (ps:List Pt):List Sg:=(List.range ps.length).map (edgeP ps)
theorem edgesP_len (ps:List Pt):(edgesP ps).length=ps.length:=by unfold edgesP; simp
theorem edgesP_take {ps:List Pt} {i:Nat} (h:i < ps.length):(edgesP ps).take (i+1)=(edgesP ps).take i++[edgeP ps i]:=by
 rw [List.take_add_one]
 congr 1
 unfold edgesP
 rw [List.getElem?_map,List.getElem?_eq_getElem (by simpa using h)]
 simp
structure EdsI (ps:List Pt) (n i L:Int) (out:List Sg):Prop where
 h0:0<=i
 h1:i<=n
 eq:out=(edgesP ps).take i.toNat
 len:L=out.length
structure EdsF (ps:List Pt) (n i L:Int) (out:List Sg) (j r:Int) (p q:Pt) (L':Int) (out':List Sg):Prop where
 e:EdgF ps n i j r p q
 app:std.app Sg (std.tk Sg out L) [⟨p,q⟩]=out'
 fit:std.fits (std.ad L (std.len Sg [⟨p,q⟩])) 160
 len:std.ad L (std.len Sg [⟨p,q⟩])=L'
 inv:EdsI ps n j L' out'
theorem edsF_ex {ps:List Pt} (hl:ps.length<=4096) {n i L:Int} {out:List Sg} (hn:n=(ps.length:Int)) (h:EdsI ps n i L out) (hi:i < n):∃ j r p q L' out',EdsF ps n i L out j r p q L' out':=by
 obtain ⟨j,r,p,q,he⟩:=edgF_ex hn hl h.h0 hi
 have h0:=h.h0
 have hpos:i.toNat < ps.length:=by omega
 have hlen:=h.len
 have hol:out.length<=4096:=by rw [h.eq,List.length_take]; omega
 have hj:j.toNat=i.toNat+1:=by
  have h1:=he.add
  rw [s_add,w64 (by omega) (by omega)] at h1
  omega
 have hr:r.toNat=(i.toNat+1) % ps.length:=by
  have h1:=he.rem
  have h2:=he.add
  rw [s_add,w64 (by omega) (by omega)] at h2
  rw [s_rem,Int.tmod_eq_emod_of_nonneg he.j0,hn,<-h2] at h1
  have e:((i+1) % (ps.length:Int))=(((i.toNat+1) % ps.length:Nat):Int):=by rw [Int.natCast_emod]; congr 1; omega
  rw [e] at h1
  omega
 have hp:p=ps.getD i.toNat zQ:=he.g1.symm
 have hq:q=ps.getD ((i.toNat+1) % ps.length) zQ:=by rw [<-hr]; exact he.g2.symm
 refine ⟨j,r,p,q,L+1,out++[⟨p,q⟩],he,by rw [s_app,s_tk,List.take_of_length_le (by omega)],?_,rfl,he.j0,he.j1,?_,by rw [hlen]; simp⟩
 ·rw [s_fits]
  show 0<=L+1/\L+1<=_/\(L+1)*160<=_
  omega
 ·rw [hj,edgesP_take hpos,h.eq,hp,hq]; rfl
theorem edges_q {ps:List Pt} (hl:ps.length<=4096):Con Tryz.prog 36 [.ro cP ps] (.own 52 cS (edgesP ps)):=by
 obtain ⟨rs,hrs⟩:∃ r,r=edgesP ps:=⟨_,rfl⟩
 rw [<-hrs]
 obtain ⟨n,hn⟩:∃ n:Int,n=ps.length:=⟨_,rfl⟩
 obtain ⟨i0,hi0⟩:∃ i:Int,i=0:=⟨_,rfl⟩
 obtain ⟨l0,hl0⟩:∃ i:Int,i=0:=⟨_,rfl⟩
 obtain ⟨o0,ho0⟩:∃ l:List Sg,l=[]:=⟨_,rfl⟩
 have hp0:EdsI ps n i0 l0 o0:=⟨by omega,by omega,by rw [ho0,hi0]; rfl,by rw [hl0,ho0]; rfl⟩
 have hrnd:∀ i L out,EdsI ps n i L out->i < n->∃ j r p q L' out',EdsF ps n i L out j r p q L' out':=fun i L out h h'=>edsF_ex hl hn h h'
 have hfin:∀ i L out,EdsI ps n i L out->¬ i < n->out=rs/\std.tk Sg out L=out:=fun i L out h h'=>by
  have h1:=h.h1
  have h2:=h.len
  refine ⟨by rw [h.eq,hrs,List.take_of_length_le (by rw [edgesP_len]; omega)],by rw [s_tk,List.take_of_length_le (by omega)]⟩
 clear hrs
 refine Con.of ttOk mixed Tryz.func36 {} edges_ok 4 (by kernel_rfl) (fun P' E hP hE=>?_)
 cbv
 refine LoopTo.nilC 1 0 52 cS cS_ok rfl rfl ?_
 refine LoopTo.by (ι:=Int × Int × List Sg) (fun x=>[(6,.v (.int .i64 n)),(7,.v (.int .i64 x.1))]) (fun x=>[(1,.cells [.s 4 x.2.1] 49),(4,.row true 52 cS x.2.2)]) (fun x=>EdsI ps n x.1 x.2.1 x.2.2) (fun x=>(n - x.1).toNat) (i0,l0,o0) [] hp0 ?_ ?_
 ·cbv
  subst hE
  and_intros
  all_goals first
   | exact True.intro
   | rfl
   | exact vi hn.symm
   | exact vj hi0.symm
   | exact congrArg (fun x=>AV.s 4 x) hl0.symm
   | exact Sm.of ho0.symm
   | (intro h; cases h; done)
   | (simp [hl0]; done)
 ·rintro ⟨i,L,out⟩ hi
  have hi:EdsI ps n i L out:=hi
  clear hp0
  cbv
  refine fork.mk ?_ ?_
  ·intro g
   have hlt:i < n:=by subst hE; simpa [std] using g
   refine Exists.elim (hrnd i L out hi hlt) ?_
   intro j h
   refine Exists.elim h ?_
   intro r h
   refine Exists.elim h ?_
   intro p h
   refine Exists.elim h ?_
   intro q h
   refine Exists.elim h ?_
   intro L' h
   refine Exists.elim h ?_
   intro out' hf
   have hn:n=(ps.length:Int):=hn
   have in1:0<=i/\i < (ps.length:Int):=by rw [<-hn]; exact hf.e.in1
   have hadd:=hf.e.add
   have hnz:std.nz .rem (std.len Pt ps):=by show (ps.length:Int) ≠ 0; have:=hf.e.nz; rw [<-hn]; exact this
   have hrem:std.ib .rem .i64 (std.ib .add .i64 i 1) (std.len Pt ps)=r:=by rw [hadd,s_len,<-hn]; exact hf.e.rem
   have in2:0<=std.ib .rem .i64 (std.ib .add .i64 i 1) (std.len Pt ps)/\std.ib .rem .i64 (std.ib .add .i64 i 1) (std.len Pt ps) < (ps.length:Int):=by rw [hrem,<-hn]; exact hf.e.in2
   have happ:std.app Sg (std.tk Sg out L) [⟨std.get Pt ps i zQ,std.get Pt ps (std.ib .rem .i64 (std.ib .add .i64 i 1) (std.len Pt ps)) zQ⟩]=out':=by rw [hrem,hf.e.g1,hf.e.g2]; exact hf.app
   have hfit:=hf.fit
   have hlen9:=hf.len
   have hinv:=hf.inv
   have hmu:=hf.e.mu
   clear hf h hi hlt g
   cbv
   refine Need.mk (by subst hE; exact in1) ?_
   cbv
   refine Need.mk (by subst hE; exact hnz) ?_
   cbv
   refine Need.mk (by subst hE; exact in2) ?_
   cbv
   refine Need.mk (by subst hE; exact hfit) ?_
   cbv
   refine ⟨(j,L',out'),[0,1,2,3,9],hinv,hmu,?_⟩
   cbv
   subst hE
   and_intros
   all_goals first
    | exact True.intro
    | rfl
    | exact Sm.of happ
    | exact congrArg (fun x=>AV.s 9 x) hlen9
    | exact vi hadd
    | exact vj hadd
    | (simp; done)
    | (intro h; cases h; done)
  ·intro g
   have hge:¬ i < n:=by subst hE; simpa [std] using g
   have hx:=hfin i L out hi hge
   have h1:out=rs:=hx.1
   have htk:std.tk Sg out L=out:=hx.2
   clear hi hge hfin hrnd g hx
   subst h1
   cbv
   subst hE
   first
    | exact Sm.of htk
    | exact ⟨Sm.of htk,trivial⟩
    | exact congrArg _ htk
/-- The least of the first i vertices. -/
def firstTo (l:List Pq) (i:Nat):Nat:=(List.range i).foldl (fun k i=>if cmpP (at' l i) (at' l k) < 0 then i else k) 0
theorem firstTo_succ (l:List Pq) (i:Nat):firstTo l (i+1)=if cmpP (at' l i) (at' l (firstTo l i)) < 0 then i else firstTo l i:=by
 unfold firstTo; rw [List.range_succ,List.foldl_append]; rfl
theorem firstTo_le (l:List Pq):∀ i,firstTo l i<=i - 1
 | 0=>Nat.le_refl _
 | i+1=>by
  rw [firstTo_succ]
  have:=firstTo_le l i
  split<;>omega
structure FstI (ps:List Pt) (n i k:Int):Prop where
 h0:0<=i
 h1:i<=n
 k0:0<=k
 eq:k.toNat=firstTo (ps.map Pt.q) i.toNat
structure FstF (ps:List Pt) (n i k:Int) (p q:Pt) (m j:Int):Prop where
 in1:0<=i/\i < (ps.length:Int)
 in2:0<=k/\k < (ps.length:Int)
 g1:std.get Pt ps i zQ=p
 g2:std.get Pt ps k zQ=q
 c:Con Tryz.prog 120 [.v p.v,.v q.v] (.v (.int .i64 m))
 add:std.ib .add .i64 i 1=j
 lt:m < 0->FstI ps n j i
 ge:¬ m < 0->FstI ps n j k
 mu:(n - j).toNat < (n - i).toNat
theorem fstF_ex {k0:Nat} {ps:List Pt} (hp:∀ p ∈ ps,IsP k0 p p.q) (hl:ps.length<=4096) (hk:2*k0<=134217728) {n i k:Int} (hn:n=(ps.length:Int)) (h:FstI ps n i k) (hi:i < n):∃ p q m j,FstF ps n i k p q m j:=by
 have h0:=h.h0
 have hk0:=h.k0
 have hle:=firstTo_le (ps.map Pt.q) i.toNat
 rw [<-h.eq] at hle
 have b1:i.toNat < ps.length:=by omega
 have b2:k.toNat < ps.length:=by omega
 obtain ⟨m,em,km⟩:=vcmp_p (hp _ (getD_mem b1)) (hp _ (getD_mem b2)) (by omega)
 have e:(i+1).toNat=i.toNat+1:=by omega
 have hs:=firstTo_succ (ps.map Pt.q) i.toNat
 rw [<-h.eq,map_at b1,map_at b2,<-em,<-e] at hs
 exact ⟨ps.getD i.toNat zQ,ps.getD k.toNat zQ,m,i+1,⟨⟨h0,by omega⟩,⟨hk0,by omega⟩,rfl,rfl,km,by rw [s_add,w64 (by omega) (by omega)],fun c=>⟨by omega,by omega,h0,by rw [hs,if_pos c]⟩,fun c=>⟨by omega,by omega,hk0,by rw [hs,if_neg c]⟩,by omega⟩⟩
theorem first_q {k0:Nat} {ps:List Pt} (hp:∀ p ∈ ps,IsP k0 p p.q) (hl:ps.length<=4096) (hk:2*k0<=134217728):Con Tryz.prog 99 [.ro cP ps] (.v (.int .i64 (firstI (ps.map Pt.q):Nat))):=by
 obtain ⟨r0,e0⟩:∃ r:Int,r=(firstI (ps.map Pt.q):Nat):=⟨_,rfl⟩
 rw [<-e0]
 obtain ⟨n,hn⟩:∃ n:Int,n=ps.length:=⟨_,rfl⟩
 obtain ⟨i0,hi0⟩:∃ i:Int,i=0:=⟨_,rfl⟩
 have hp0:FstI ps n i0 i0:=⟨by omega,by omega,by omega,by rw [hi0]; rfl⟩
 have hrnd:∀ i k,FstI ps n i k->i < n->∃ p q m j,FstF ps n i k p q m j:=fun i k h h'=>fstF_ex hp hl hk hn h h'
 have hfin:∀ i k,FstI ps n i k->¬ i < n->k=r0:=fun i k h h'=>by
  have h1:=h.h1
  have h2:=h.k0
  have h3:=h.eq
  have e:i.toNat=(ps.map Pt.q).length:=by rw [List.length_map]; omega
  have e2:firstTo (ps.map Pt.q) (ps.map Pt.q).length=firstI (ps.map Pt.q):=rfl
  rw [e,e2] at h3
  omega
 clear e0
 refine Con.of ttOk mixed Tryz.func99 { ord:=[(5,[0,1,2,3,4,5,6])] } .nil 0 (by kernel_rfl) (fun P' E hP hE=>?_)
 cbv
 refine LoopTo.by (ι:=Int × Int) (fun x=>[(7,.v (.int .i64 n)),(8,.v (.int .i64 x.1)),(3,.v (.int .i64 x.2))]) (fun x=>[]) (fun x=>FstI ps n x.1 x.2) (fun x=>(n - x.1).toNat) (i0,i0) [] hp0 ?_ ?_
 ·cbv
  subst hE
  and_intros
  all_goals first
   | exact True.intro
   | rfl
   | exact vi hn.symm
   | exact vj hi0.symm
   | (simp; done)
 ·rintro ⟨i,k⟩ hi
  have hi:FstI ps n i k:=hi
  clear hp0
  cbv
  refine fork.mk ?_ ?_
  ·intro g
   have hlt:i < n:=by subst hE; simpa [std] using g
   refine Exists.elim (hrnd i k hi hlt) ?_
   intro p h
   refine Exists.elim h ?_
   intro q h
   refine Exists.elim h ?_
   intro m h
   refine Exists.elim h ?_
   intro j hf
   have in1:=hf.in1
   have in2:=hf.in2
   have hg1:=hf.g1
   have hg2:=hf.g2
   have kc:=hf.c
   have hadd:=hf.add
   have hlt9:=hf.lt
   have hge9:=hf.ge
   have hmu:=hf.mu
   clear hf h hi hlt g
   cbv
   refine Need.mk (by subst hE; exact in1) ?_
   cbv
   refine Need.mk (by subst hE; exact in2) ?_
   cbv
   refine CallTo.w hP hE kc ⟨(by subst hE; exact congrArg (fun p:Pt=>p.v) hg1),(by subst hE; exact congrArg (fun p:Pt=>p.v) hg2),trivial⟩ ?_
   cbv
   refine fork.mk ?_ ?_
   ·intro g
    have hst:=hlt9 (by subst hE; simpa [std] using g)
    cbv
    refine ⟨(j,i),[],hst,hmu,?_⟩
    cbv
    subst hE
    and_intros
    all_goals first
     | exact True.intro
     | rfl
     | exact vi hadd
     | exact vj hadd
     | (simp; done)
   ·intro g
    have hst:=hge9 (by subst hE; simpa [std] using g)
    cbv
    refine ⟨(j,k),[],hst,hmu,?_⟩
    cbv
    subst hE
    and_intros
    all_goals first
     | exact True.intro
     | rfl
     | exact vi hadd
     | exact vj hadd
     | (simp; done)
  ·intro g
   have hge:¬ i < n:=by subst hE; simpa [std] using g
   have hx:=hfin i k hi hge
   clear hi hge hfin hrnd g
   subst hx
   cbv
/-- flat's answer. -/
def flatI (l:List Pq):Int:=match (List.range l.length).find? (flatAt l) with
 | some i=>i
 | none => -1
theorem flatI_at {l:List Pq} {i:Nat} (hi:i < l.length) (h:∀ k,k < i->flatAt l k=false) (hf:flatAt l i=true):flatI l=i:=by
 unfold flatI
 have:(List.range l.length).find? (flatAt l)=some i:=by
  rw [List.find?_range_eq_some]
  exact ⟨hf,by simpa using hi,fun j hj=>by simp [h j hj]⟩
 rw [this]
theorem flatI_no {l:List Pq} (h:∀ k,k < l.length->flatAt l k=false):flatI l = -1:=by
 unfold flatI
 have:(List.range l.length).find? (flatAt l)=none:=by
  rw [List.find?_eq_none]
  intro x hx
  rw [h x (by simpa using hx)]; decide
 rw [this]
theorem flatI_iff (l:List Pq):0<=flatI l ↔ flatB l=true:=by
 unfold flatI flatB
 rw [List.any_eq_true]
 cases h:(List.range l.length).find? (flatAt l) with
 | none=>
  rw [List.find?_eq_none] at h
  constructor
  ·intro c; exact absurd c (by decide)
  ·rintro ⟨x,hx,e⟩; exact absurd e (h x hx)
 | some i=>exact ⟨fun _=>⟨i,List.mem_of_find?_eq_some h,List.find?_some h⟩,fun _=>Int.natCast_nonneg i⟩
end Go.Proofs.YtkipmmiiackdaaaGreat.Sx
