/- Part 20 of what the statement needs: an executor of Go texts, arithmetic, and contracts of the functions that are called. -/
import Derived.Test.YtkipmmiiackdaaaGreatCi19
set_option linter.unusedSimpArgs false
set_option linter.unusedVariables false
set_option maxHeartbeats 8000000
set_option maxRecDepth 100000
namespace Go.Proofs.YtkipmmiiackdaaaGreat.Sx
open Env (std)
theorem prod_size (na nb:Bool) (ma mb:ByteArray):(mg (zval na ma*zval nb mb).natAbs).size<=ma.size+mb.size:=by
 refine mg_size_le ?_
 rw [Int.natAbs_mul,zval_abs,zval_abs,Nat.pow_add]
 exact Nat.mul_lt_mul'' (bv_lt ma) (bv_lt mb)
theorem cmp2_con (na nb sa sb:Bool) (ma da mb db:ByteArray) (h1:ma.size<=268435456) (h2:da.size<=268435456) (h3:mb.size<=268435456) (h4:db.size<=268435456):Con Tryz.prog 188 [.v (fR na ma sa da),.v (fR nb mb sb db)] (.v (.int .i64 (cmpI (zval na ma*zval sb db) (zval nb mb*zval sa da)))):=by
 have c1:=mul_con na sb ma db (by omega) (by omega)
 have c2:=mul_con nb sa mb da (by omega) (by omega)
 have z1:=prod_size na sb ma db
 have z2:=prod_size nb sa mb da
 have c3:=compare_z (decide (zval na ma*zval sb db < 0)) (decide (zval nb mb*zval sa da < 0)) (mg (zval na ma*zval sb db).natAbs) (mg (zval nb mb*zval sa da).natAbs) (by omega) (by omega)
 rw [zval_mg,zval_mg] at c3
 unfold zV at c1 c2
 obtain ⟨r,hr⟩:∃ r,r=cmpI (zval na ma*zval sb db) (zval nb mb*zval sa da):=⟨_,rfl⟩
 rw [<-hr] at c3 ⊢
 obtain ⟨x1,hx1⟩:∃ r,r=decide (zval na ma*zval sb db < 0):=⟨_,rfl⟩
 obtain ⟨y1,hy1⟩:∃ r,r=mg (zval na ma*zval sb db).natAbs:=⟨_,rfl⟩
 obtain ⟨x2,hx2⟩:∃ r,r=decide (zval nb mb*zval sa da < 0):=⟨_,rfl⟩
 obtain ⟨y2,hy2⟩:∃ r,r=mg (zval nb mb*zval sa da).natAbs:=⟨_,rfl⟩
 rw [<-hx1,<-hy1] at c1 c3
 rw [<-hx2,<-hy2] at c2 c3
 unfold zR at c1 c2 c3
 unfold fR
 refine Con.of ttOk mixed Tryz.func188 { ord:=[(1,[0,1,2,3,5,6,7,8,4,9,10,11])] } .nil 0 (by kernel_rfl) (fun P' E hP hE=>?_)
 clear hr hx1 hy1 hx2 hy2 z1 z2
 cbv
 refine CallTo.con hP hE c1 (by subst hE; exact ⟨rfl,rfl,trivial⟩) ?_
 cbv
 refine CallTo.con hP hE c2 (by subst hE; exact ⟨rfl,rfl,trivial⟩) ?_
 cbv
 refine CallTo.con hP hE c3 (by subst hE; exact ⟨rfl,rfl,trivial⟩) ?_
 cbv
theorem mul2_con (na nb:Bool) (ma da mb db:ByteArray) (h1:ma.size<=268435456) (h2:da.size<=268435456) (h3:mb.size<=268435456) (h4:db.size<=268435456) (p2:0 < bv da) (p4:0 < bv db):Con Tryz.prog 135 [.v (fR na ma false da),.v (fR nb mb false db)] (.v (rI (zval na ma*zval nb mb) (bv da*bv db))):=by
 have c1:=mul_con na nb ma mb (by omega) (by omega)
 have c2:=mul_con false false da db (by omega) (by omega)
 have z1:=prod_size na nb ma mb
 have z2:=prod_size false false da db
 have e2:zval false da*zval false db=((bv da*bv db:Nat):Int):=(Int.natCast_mul _ _).symm
 rw [e2] at c2 z2
 have e3:(((bv da*bv db:Nat):Int)).natAbs=bv da*bv db:=rfl
 rw [e3] at z2
 have e4:zV ((bv da*bv db:Nat):Int)=.agg #[.bool false,.string (mg (bv da*bv db))]:=by
  have h:decide (((bv da*bv db:Nat):Int) < 0)=false:=decide_eq_false (by omega)
  unfold zV zR
  rw [h]; rfl
 rw [e4] at c2
 have c3:=number_con (decide (zval na ma*zval nb mb < 0)) (mg (zval na ma*zval nb mb).natAbs) (mg (bv da*bv db)) (by rw [bv_mg]; exact Nat.mul_pos p2 p4) (by omega) (by omega)
 rw [zval_mg,bv_mg] at c3
 unfold zV at c1
 obtain ⟨rs,rn,rd,hres⟩:∃ a b c,rI (zval na ma*zval nb mb) (bv da*bv db)=.agg #[.bool a,.string b,.string c]:=by
  unfold rI
  split
  ·exact ⟨_,_,_,rfl⟩
  ·exact ⟨_,_,_,rfl⟩
 rw [hres] at c3 ⊢
 obtain ⟨x1,hx1⟩:∃ r,r=decide (zval na ma*zval nb mb < 0):=⟨_,rfl⟩
 obtain ⟨y1,hy1⟩:∃ r,r=mg (zval na ma*zval nb mb).natAbs:=⟨_,rfl⟩
 obtain ⟨y2,hy2⟩:∃ r,r=mg (bv da*bv db):=⟨_,rfl⟩
 rw [<-hx1,<-hy1] at c1 c3
 rw [<-hy2] at c2 c3
 unfold zR at c1 c2
 unfold fR at c3 ⊢
 refine Con.of ttOk mixed Tryz.func135 { ord:=[(1,[0,1,2,3,5,6,7,8,4,9,10,11,12])] } .nil 0 (by kernel_rfl) (fun P' E hP hE=>?_)
 clear hres hx1 hy1 hy2 z1 z2 e2 e3 e4
 cbv
 refine CallTo.con hP hE c1 (by subst hE; exact ⟨rfl,rfl,trivial⟩) ?_
 cbv
 refine CallTo.con hP hE c2 (by subst hE; exact ⟨rfl,rfl,trivial⟩) ?_
 cbv
 refine CallTo.con hP hE c3 (by subst hE; exact ⟨rfl,trivial⟩) ?_
 cbv
theorem sum_size (x y:Int) {k l:Nat} (hx:x.natAbs < 256 ^ k) (hy:y.natAbs < 256 ^ l):(mg (x+y).natAbs).size<=k+l+1:=by
 refine mg_size_le ?_
 have h3:=pow256_mono (show k<=k+l by omega)
 have h4:=pow256_mono (show l<=k+l by omega)
 rw [Nat.pow_succ]
 generalize (256:Nat) ^ (k+l)=p at *
 omega
theorem prod_lt256 (na nb:Bool) (ma mb:ByteArray):(zval na ma*zval nb mb).natAbs < 256 ^ (ma.size+mb.size):=by
 rw [Int.natAbs_mul,zval_abs,zval_abs,Nat.pow_add]
 exact Nat.mul_lt_mul'' (bv_lt ma) (bv_lt mb)
theorem add2_con (na nb:Bool) (ma da mb db:ByteArray) (h1:ma.size<=268435456) (h2:da.size<=268435456) (h3:mb.size<=268435456) (h4:db.size<=268435456) (p2:0 < bv da) (p4:0 < bv db):Con Tryz.prog 132 [.v (fR na ma false da),.v (fR nb mb false db)] (.v (rI (zval na ma*zval false db+zval nb mb*zval false da) (bv da*bv db))):=by
 have c1:=mul_con na false ma db (by omega) (by omega)
 have c2:=mul_con nb false mb da (by omega) (by omega)
 have c4:=mul_con false false da db (by omega) (by omega)
 have z1:=prod_size na false ma db
 have z2:=prod_size nb false mb da
 have z4:=prod_size false false da db
 have z3:=sum_size _ _ (prod_lt256 na false ma db) (prod_lt256 nb false mb da)
 have c3:=add_con (decide (zval na ma*zval false db < 0)) (decide (zval nb mb*zval false da < 0)) (mg (zval na ma*zval false db).natAbs) (mg (zval nb mb*zval false da).natAbs) (by omega) (by omega)
 rw [zval_mg,zval_mg] at c3
 have e2:zval false da*zval false db=((bv da*bv db:Nat):Int):=(Int.natCast_mul _ _).symm
 rw [e2] at c4 z4
 have e3:(((bv da*bv db:Nat):Int)).natAbs=bv da*bv db:=rfl
 rw [e3] at z4
 have e4:zV ((bv da*bv db:Nat):Int)=.agg #[.bool false,.string (mg (bv da*bv db))]:=by
  have h:decide (((bv da*bv db:Nat):Int) < 0)=false:=decide_eq_false (by omega)
  unfold zV zR
  rw [h]; rfl
 rw [e4] at c4
 obtain ⟨X,hX⟩:∃ x,x=zval na ma*zval false db:=⟨_,rfl⟩
 obtain ⟨Y,hY⟩:∃ x,x=zval nb mb*zval false da:=⟨_,rfl⟩
 rw [<-hX] at c1
 rw [<-hY] at c2
 rw [<-hX,<-hY] at c3 z3
 rw [<-hX,<-hY]
 have c5:=number_con (decide (X+Y < 0)) (mg (X+Y).natAbs) (mg (bv da*bv db)) (by rw [bv_mg]; exact Nat.mul_pos p2 p4) (by omega) (by omega)
 rw [zval_mg,bv_mg] at c5
 unfold zV at c1 c2 c3
 obtain ⟨rs,rn,rd,hres⟩:∃ a b c,rI (X+Y) (bv da*bv db)=.agg #[.bool a,.string b,.string c]:=by
  unfold rI
  split
  ·exact ⟨_,_,_,rfl⟩
  ·exact ⟨_,_,_,rfl⟩
 rw [hres] at c5 ⊢
 obtain ⟨s5,hs5⟩:∃ r,r=decide (X+Y < 0):=⟨_,rfl⟩
 obtain ⟨m5,hm5⟩:∃ r,r=mg (X+Y).natAbs:=⟨_,rfl⟩
 rw [<-hs5,<-hm5] at c3
 rw [<-hs5,<-hm5] at c5
 obtain ⟨x1,hx1⟩:∃ r,r=decide (X < 0):=⟨_,rfl⟩
 obtain ⟨y1,hy1⟩:∃ r,r=mg X.natAbs:=⟨_,rfl⟩
 obtain ⟨x2,hx2⟩:∃ r,r=decide (Y < 0):=⟨_,rfl⟩
 obtain ⟨y2,hy2⟩:∃ r,r=mg Y.natAbs:=⟨_,rfl⟩
 obtain ⟨w,hw⟩:∃ r,r=mg (bv da*bv db):=⟨_,rfl⟩
 rw [<-hx1,<-hy1] at c1
 rw [<-hx2,<-hy2] at c2
 rw [<-hx1,<-hy1,<-hx2,<-hy2] at c3
 rw [<-hw] at c4 c5
 unfold zR at c1 c2 c3 c4
 unfold fR at c5 ⊢
 refine Con.of ttOk mixed Tryz.func132 { ord:=[(1,[0,1,2,3,5,6,7,8,11,12,13,14,4,9,10,15,16,17,18])] } .nil 0 (by kernel_rfl) (fun P' E hP hE=>?_)
 clear hres hx1 hy1 hx2 hy2 hs5 hm5 hw hX hY z1 z2 z3 z4 e2 e3 e4
 cbv
 refine CallTo.con hP hE c1 (by subst hE; exact ⟨rfl,rfl,trivial⟩) ?_
 cbv
 refine CallTo.con hP hE c2 (by subst hE; exact ⟨rfl,rfl,trivial⟩) ?_
 cbv
 refine CallTo.con hP hE c3 (by subst hE; exact ⟨rfl,rfl,trivial⟩) ?_
 cbv
 refine CallTo.con hP hE c4 (by subst hE; exact ⟨rfl,rfl,trivial⟩) ?_
 cbv
 refine CallTo.con hP hE c5 (by subst hE; exact ⟨rfl,trivial⟩) ?_
 cbv
theorem both_ok:InlOk Tryz.prog [(186,Tryz.f186,{ ord:=[(5,[0,1,3,2,4,5,6])] })]:=
 InlOk.cons Tryz.func186 (by kernel_rfl) .nil
theorem cmp_small (na nb:Bool) (ma da mb db:ByteArray) (h1:ma.size<=3) (h2:da.size<=3) (h3:mb.size<=3) (h4:db.size<=3):Con Tryz.prog 88 [.v (rR na ma da),.v (rR nb mb db)] (.v (.int .i64 (cmpI (zval na ma*max (bv db:Int) 1) (zval nb mb*max (bv da:Int) 1)))):=by
 have c1:=machine_yes na ma da h1 h2
 have c2:=machine_yes nb mb db h3 h4
 have hb:∀ (ng:Bool) (s:ByteArray),s.size<=3->(zval ng s).natAbs<=16777216/\(max (bv s:Int) 1).natAbs<=16777216:=fun ng s h=>by
  have q:=bv_lt s
  have q2:=pow256_mono h
  have q3:(256:Nat) ^ 3=16777216:=by decide
  rw [zval_abs]
  omega
 have c3:=cmp1_con (zval na ma) (max (bv da:Int) 1) (zval nb mb) (max (bv db:Int) 1) (hb na ma h1).1 (hb false da h2).2 (hb nb mb h3).1 (hb false db h4).2
 obtain ⟨r,hr⟩:∃ r,r=cmpI (zval na ma*max (bv db:Int) 1) (zval nb mb*max (bv da:Int) 1):=⟨_,rfl⟩
 rw [<-hr] at c3 ⊢
 obtain ⟨x1,hx1⟩:∃ x,x=zval na ma:=⟨_,rfl⟩
 obtain ⟨x2,hx2⟩:∃ x,x=zval nb mb:=⟨_,rfl⟩
 obtain ⟨y1,hy1⟩:∃ x:Int,x=max (bv da:Int) 1:=⟨_,rfl⟩
 obtain ⟨y2,hy2⟩:∃ x:Int,x=max (bv db:Int) 1:=⟨_,rfl⟩
 rw [<-hx1,<-hy1] at c1
 rw [<-hx2,<-hy2] at c2
 rw [<-hx1,<-hx2,<-hy1,<-hy2] at c3
 unfold rR at c1 c2 ⊢
 refine Con.of ttOk mixed Tryz.func88 {} both_ok 1 (by kernel_rfl) (fun P' E hP hE=>?_)
 clear hr hx1 hx2 hy1 hy2
 cbv
 refine CallTo.con hP hE c1 (by subst hE; exact ⟨rfl,trivial⟩) ?_
 cbv
 refine CallTo.con hP hE c2 (by subst hE; exact ⟨rfl,trivial⟩) ?_
 cbv
 refine fork.mk ?_ ?_
 ·intro _
  cbv
  refine fork.mk ?_ ?_
  ·intro _
   cbv
   refine CallTo.con hP hE c3 (by subst hE; exact ⟨rfl,rfl,rfl,rfl,trivial⟩) ?_
   cbv
  ·intro h
   cases h
 ·intro h
  cases h
theorem machine_ex (neg:Bool) (num den:ByteArray):∃ n d f,Con Tryz.prog 214 [.v (rR neg num den)] (.v (.tuple #[.int .i64 n,.int .i64 d,.bool f]))/\(f=false ↔ (3 < num.size\/3 < den.size)):=by
 by_cases h:3 < num.size\/3 < den.size
 ·exact ⟨_,_,false,machine_no neg num den h,by simp [h]⟩
 ·exact ⟨_,_,true,machine_yes neg num den (by omega) (by omega),by simp [h]⟩
theorem cmp_great (na nb:Bool) (ma da mb db:ByteArray) (h1:ma.size<=268435456) (h2:da.size<=268435456) (h3:mb.size<=268435456) (h4:db.size<=268435456) (hd1:(dden da).size<=268435456) (hd2:(dden db).size<=268435456) (hs:(3 < ma.size\/3 < da.size)\/(3 < mb.size\/3 < db.size)):Con Tryz.prog 88 [.v (rR na ma da),.v (rR nb mb db)] (.v (.int .i64 (cmpI (zval na ma*zval false (dden db)) (zval nb mb*zval false (dden da))))):=by
 obtain ⟨x1,y1,f1,c1,g1⟩:=machine_ex na ma da
 obtain ⟨x2,y2,f2,c2,g2⟩:=machine_ex nb mb db
 rw [<-g1,<-g2] at hs
 have c4:=of98_con na ma da (by omega)
 have c5:=of98_con nb mb db (by omega)
 have c6:=cmp2_con na nb false false ma (dden da) mb (dden db) h1 hd1 h3 hd2
 obtain ⟨r,hr⟩:∃ r,r=cmpI (zval na ma*zval false (dden db)) (zval nb mb*zval false (dden da)):=⟨_,rfl⟩
 rw [<-hr] at c6 ⊢
 obtain ⟨ea,hea⟩:∃ x,x=dden da:=⟨_,rfl⟩
 obtain ⟨eb,heb⟩:∃ x,x=dden db:=⟨_,rfl⟩
 rw [<-hea] at c4
 rw [<-heb] at c5
 rw [<-hea,<-heb] at c6
 unfold rR at c1 c2 c4 c5 ⊢
 unfold fR at c4 c5 c6
 refine Con.of ttOk mixed Tryz.func88 {} both_ok 1 (by kernel_rfl) (fun P' E hP hE=>?_)
 clear hr hea heb g1 g2 hd1 hd2
 cbv
 refine CallTo.con hP hE c1 (by subst hE; exact ⟨rfl,trivial⟩) ?_
 cbv
 refine CallTo.con hP hE c2 (by subst hE; exact ⟨rfl,trivial⟩) ?_
 cbv
 refine fork.mk ?_ ?_
 ·intro k1
  cbv
  refine fork.mk ?_ ?_
  ·intro k2
   exfalso
   rcases hs with h | h
   ·exact absurd (k1.symm.trans h) (by decide)
   ·exact absurd (k2.symm.trans h) (by decide)
  ·intro k2
   cbv
   refine CallTo.con hP hE c4 (by subst hE; exact ⟨rfl,trivial⟩) ?_
   cbv
   refine CallTo.con hP hE c5 (by subst hE; exact ⟨rfl,trivial⟩) ?_
   cbv
   refine CallTo.con hP hE c6 (by subst hE; exact ⟨rfl,rfl,trivial⟩) ?_
   cbv
 ·intro k1
  cbv
  refine CallTo.con hP hE c4 (by subst hE; exact ⟨rfl,trivial⟩) ?_
  cbv
  refine CallTo.con hP hE c5 (by subst hE; exact ⟨rfl,trivial⟩) ?_
  cbv
  refine CallTo.con hP hE c6 (by subst hE; exact ⟨rfl,rfl,trivial⟩) ?_
  cbv
theorem bothR_ok:InlOk Tryz.prog [(129,Tryz.f129,{ ord:=[(5,[0,1,3,2,4,5,6])] })]:=
 InlOk.cons Tryz.func129 (by kernel_rfl) .nil
theorem rI_ex (n:Int) (d:Nat):∃ a b c,rI n d=.agg #[.bool a,.string b,.string c]:=by
 unfold rI
 split
 ·exact ⟨_,_,_,rfl⟩
 ·exact ⟨_,_,_,rfl⟩
theorem add_great (na nb:Bool) (ma da mb db:ByteArray) (h1:ma.size<=268435456) (h2:da.size<=268435456) (h3:mb.size<=268435456) (h4:db.size<=268435456) (hd1:(dden da).size<=268435456) (hd2:(dden db).size<=268435456) (p1:0 < bv (dden da)) (p2:0 < bv (dden db)) (hs:(3 < ma.size\/3 < da.size)\/(3 < mb.size\/3 < db.size)):Con Tryz.prog 45 [.v (rR na ma da),.v (rR nb mb db)] (.v (rI (zval na ma*zval false (dden db)+zval nb mb*zval false (dden da)) (bv (dden da)*bv (dden db)))):=by
 obtain ⟨x1,y1,f1,c1,g1⟩:=machine_ex na ma da
 obtain ⟨x2,y2,f2,c2,g2⟩:=machine_ex nb mb db
 rw [<-g1,<-g2] at hs
 have c4:=of98_con na ma da (by omega)
 have c5:=of98_con nb mb db (by omega)
 have c6:=add2_con na nb ma (dden da) mb (dden db) h1 hd1 h3 hd2 p1 p2
 obtain ⟨rs,rn,rd,hr⟩:=rI_ex (zval na ma*zval false (dden db)+zval nb mb*zval false (dden da)) (bv (dden da)*bv (dden db))
 rw [hr] at c6 ⊢
 obtain ⟨ea,hea⟩:∃ x,x=dden da:=⟨_,rfl⟩
 obtain ⟨eb,heb⟩:∃ x,x=dden db:=⟨_,rfl⟩
 rw [<-hea] at c4
 rw [<-heb] at c5
 rw [<-hea,<-heb] at c6
 unfold rR at c1 c2 c4 c5 ⊢
 unfold fR at c4 c5 c6
 refine Con.of ttOk mixed Tryz.func45 {} bothR_ok 1 (by kernel_rfl) (fun P' E hP hE=>?_)
 clear hr hea heb g1 g2 hd1 hd2 p1 p2
 cbv
 refine CallTo.con hP hE c1 (by subst hE; exact ⟨rfl,trivial⟩) ?_
 cbv
 refine CallTo.con hP hE c2 (by subst hE; exact ⟨rfl,trivial⟩) ?_
 cbv
 refine fork.mk ?_ ?_
 ·intro k1
  cbv
  refine fork.mk ?_ ?_
  ·intro k2
   exfalso
   rcases hs with h | h
   ·exact absurd (k1.symm.trans h) (by decide)
   ·exact absurd (k2.symm.trans h) (by decide)
  ·intro k2
   cbv
   refine CallTo.con hP hE c4 (by subst hE; exact ⟨rfl,trivial⟩) ?_
   cbv
   refine CallTo.con hP hE c5 (by subst hE; exact ⟨rfl,trivial⟩) ?_
   cbv
   refine CallTo.con hP hE c6 (by subst hE; exact ⟨rfl,rfl,trivial⟩) ?_
   cbv
 ·intro k1
  cbv
  refine CallTo.con hP hE c4 (by subst hE; exact ⟨rfl,trivial⟩) ?_
  cbv
  refine CallTo.con hP hE c5 (by subst hE; exact ⟨rfl,trivial⟩) ?_
  cbv
  refine CallTo.con hP hE c6 (by subst hE; exact ⟨rfl,rfl,trivial⟩) ?_
  cbv
theorem mul_great (na nb:Bool) (ma da mb db:ByteArray) (h1:ma.size<=268435456) (h2:da.size<=268435456) (h3:mb.size<=268435456) (h4:db.size<=268435456) (hd1:(dden da).size<=268435456) (hd2:(dden db).size<=268435456) (p1:0 < bv (dden da)) (p2:0 < bv (dden db)) (hs:(3 < ma.size\/3 < da.size)\/(3 < mb.size\/3 < db.size)):Con Tryz.prog 46 [.v (rR na ma da),.v (rR nb mb db)] (.v (rI (zval na ma*zval nb mb) (bv (dden da)*bv (dden db)))):=by
 obtain ⟨x1,y1,f1,c1,g1⟩:=machine_ex na ma da
 obtain ⟨x2,y2,f2,c2,g2⟩:=machine_ex nb mb db
 rw [<-g1,<-g2] at hs
 have c4:=of98_con na ma da (by omega)
 have c5:=of98_con nb mb db (by omega)
 have c6:=mul2_con na nb ma (dden da) mb (dden db) (by omega) (by omega) (by omega) (by omega) p1 p2
 obtain ⟨rs,rn,rd,hr⟩:=rI_ex (zval na ma*zval nb mb) (bv (dden da)*bv (dden db))
 rw [hr] at c6 ⊢
 obtain ⟨ea,hea⟩:∃ x,x=dden da:=⟨_,rfl⟩
 obtain ⟨eb,heb⟩:∃ x,x=dden db:=⟨_,rfl⟩
 rw [<-hea] at c4
 rw [<-heb] at c5
 rw [<-hea,<-heb] at c6
 unfold rR at c1 c2 c4 c5 ⊢
 unfold fR at c4 c5 c6
 refine Con.of ttOk mixed Tryz.func46 {} bothR_ok 1 (by kernel_rfl) (fun P' E hP hE=>?_)
 clear hr hea heb g1 g2 hd1 hd2 p1 p2
 cbv
 refine CallTo.con hP hE c1 (by subst hE; exact ⟨rfl,trivial⟩) ?_
 cbv
 refine CallTo.con hP hE c2 (by subst hE; exact ⟨rfl,trivial⟩) ?_
 cbv
 refine fork.mk ?_ ?_
 ·intro k1
  cbv
  refine fork.mk ?_ ?_
  ·intro k2
   exfalso
   rcases hs with h | h
   ·exact absurd (k1.symm.trans h) (by decide)
   ·exact absurd (k2.symm.trans h) (by decide)
  ·intro k2
   cbv
   refine CallTo.con hP hE c4 (by subst hE; exact ⟨rfl,trivial⟩) ?_
   cbv
   refine CallTo.con hP hE c5 (by subst hE; exact ⟨rfl,trivial⟩) ?_
   cbv
   refine CallTo.con hP hE c6 (by subst hE; exact ⟨rfl,rfl,trivial⟩) ?_
   cbv
 ·intro k1
  cbv
  refine CallTo.con hP hE c4 (by subst hE; exact ⟨rfl,trivial⟩) ?_
  cbv
  refine CallTo.con hP hE c5 (by subst hE; exact ⟨rfl,trivial⟩) ?_
  cbv
  refine CallTo.con hP hE c6 (by subst hE; exact ⟨rfl,rfl,trivial⟩) ?_
  cbv
theorem small_nat (ng:Bool) (s:ByteArray) (h:s.size<=3):(zval ng s).natAbs<=16777216/\(max (bv s:Int) 1).natAbs<=16777216:=by
 have q:=bv_lt s
 have q2:=pow256_mono h
 have q3:(256:Nat) ^ 3=16777216:=by decide
 rw [zval_abs]
 omega
theorem add_small (na nb:Bool) (ma da mb db:ByteArray) (h1:ma.size<=3) (h2:da.size<=3) (h3:mb.size<=3) (h4:db.size<=3):Con Tryz.prog 45 [.v (rR na ma da),.v (rR nb mb db)] (.v (rI (zval na ma*max (bv db:Int) 1+zval nb mb*max (bv da:Int) 1) (max (bv da:Int) 1*max (bv db:Int) 1).toNat)):=by
 have c1:=machine_yes na ma da h1 h2
 have c2:=machine_yes nb mb db h3 h4
 have c3:=add1_con (zval na ma) (max (bv da:Int) 1) (zval nb mb) (max (bv db:Int) 1) (small_nat na ma h1).1 (small_nat na da h2).2 (small_nat nb mb h3).1 (small_nat na db h4).2 (by omega) (by omega)
 obtain ⟨x1,hx1⟩:∃ x,x=zval na ma:=⟨_,rfl⟩
 obtain ⟨x2,hx2⟩:∃ x,x=zval nb mb:=⟨_,rfl⟩
 obtain ⟨y1,hy1⟩:∃ x:Int,x=max (bv da:Int) 1:=⟨_,rfl⟩
 obtain ⟨y2,hy2⟩:∃ x:Int,x=max (bv db:Int) 1:=⟨_,rfl⟩
 rw [<-hx1,<-hy1] at c1
 rw [<-hx2,<-hy2] at c2
 rw [<-hx1,<-hx2,<-hy1,<-hy2] at c3 ⊢
 obtain ⟨rs,rn,rd,hr⟩:=rI_ex (x1*y2+x2*y1) (y1*y2).toNat
 rw [hr] at c3 ⊢
 unfold rR at c1 c2 ⊢
 refine Con.of ttOk mixed Tryz.func45 {} bothR_ok 1 (by kernel_rfl) (fun P' E hP hE=>?_)
 clear hr hx1 hx2 hy1 hy2
 cbv
 refine CallTo.con hP hE c1 (by subst hE; exact ⟨rfl,trivial⟩) ?_
 cbv
 refine CallTo.con hP hE c2 (by subst hE; exact ⟨rfl,trivial⟩) ?_
 cbv
 refine fork.mk ?_ ?_
 ·intro _
  cbv
  refine fork.mk ?_ ?_
  ·intro _
   cbv
   refine CallTo.con hP hE c3 (by subst hE; exact ⟨rfl,rfl,rfl,rfl,trivial⟩) ?_
   cbv
  ·intro h
   cases h
 ·intro h
  cases h
theorem mul_small (na nb:Bool) (ma da mb db:ByteArray) (h1:ma.size<=3) (h2:da.size<=3) (h3:mb.size<=3) (h4:db.size<=3):Con Tryz.prog 46 [.v (rR na ma da),.v (rR nb mb db)] (.v (rI (zval na ma*zval nb mb) (max (bv da:Int) 1*max (bv db:Int) 1).toNat)):=by
 have c1:=machine_yes na ma da h1 h2
 have c2:=machine_yes nb mb db h3 h4
 have c3:=mul1_con (zval na ma) (max (bv da:Int) 1) (zval nb mb) (max (bv db:Int) 1) (small_nat na ma h1).1 (small_nat na da h2).2 (small_nat nb mb h3).1 (small_nat na db h4).2 (by omega) (by omega)
 obtain ⟨x1,hx1⟩:∃ x,x=zval na ma:=⟨_,rfl⟩
 obtain ⟨x2,hx2⟩:∃ x,x=zval nb mb:=⟨_,rfl⟩
 obtain ⟨y1,hy1⟩:∃ x:Int,x=max (bv da:Int) 1:=⟨_,rfl⟩
 obtain ⟨y2,hy2⟩:∃ x:Int,x=max (bv db:Int) 1:=⟨_,rfl⟩
 rw [<-hx1,<-hy1] at c1
 rw [<-hx2,<-hy2] at c2
 rw [<-hx1,<-hx2,<-hy1,<-hy2] at c3 ⊢
 obtain ⟨rs,rn,rd,hr⟩:=rI_ex (x1*x2) (y1*y2).toNat
 rw [hr] at c3 ⊢
 unfold rR at c1 c2 ⊢
 refine Con.of ttOk mixed Tryz.func46 {} bothR_ok 1 (by kernel_rfl) (fun P' E hP hE=>?_)
 clear hr hx1 hx2 hy1 hy2
 cbv
 refine CallTo.con hP hE c1 (by subst hE; exact ⟨rfl,trivial⟩) ?_
 cbv
 refine CallTo.con hP hE c2 (by subst hE; exact ⟨rfl,trivial⟩) ?_
 cbv
 refine fork.mk ?_ ?_
 ·intro _
  cbv
  refine fork.mk ?_ ?_
  ·intro _
   cbv
   refine CallTo.con hP hE c3 (by subst hE; exact ⟨rfl,rfl,rfl,rfl,trivial⟩) ?_
   cbv
  ·intro h
   cases h
 ·intro h
  cases h
theorem dden_bv (s:ByteArray):bv (dden s)=max (bv s) 1:=by
 unfold dden
 split
 ·rw [bv_mg]; omega
 ·omega
theorem dden_size (s:ByteArray):(dden s).size<=max s.size 1:=by
 unfold dden
 split
 ·have:(mg 1).size<=1:=mg_size_le (by decide)
  omega
 ·omega
/-- The denominator's value; none stands for 1. -/
def R.dn (r:R):Nat:=bv (dden r.den)
/-- The numerator's value. -/
def R.nm (r:R):Int:=zval r.neg r.num
/-- The value of a number. -/
def R.q (r:R):Rat:=mkRat r.nm r.dn
theorem R.dn_pos (r:R):0 < r.dn:=by unfold R.dn; rw [dden_bv]; omega
/-- The canonical number with a value. -/
def cr (x:Rat):R:=⟨decide (x.num < 0),mg x.num.natAbs,if x.den=1 then ⟨⟨[]⟩⟩ else mg x.den⟩
theorem mg_zero:mg 0=⟨⟨[]⟩⟩:=by unfold mg; rw [mgl_zero]
theorem rI_cr (n:Int) (d:Nat) (h:0 < d):rI n d=(cr (mkRat n d)).v:=by
 have e1:(mkRat n d).num=n / (Nat.gcd n.natAbs d:Nat):=by
  rw [Rat.num_mkRat,if_neg (by omega),Nat.gcd_comm]
 have e2:(mkRat n d).den=d / Nat.gcd n.natAbs d:=by
  rw [Rat.den_mkRat,if_neg (by omega),Nat.gcd_comm]
 unfold rI rR
 by_cases h0:n=0
 ·rw [if_pos h0,h0,Rat.zero_mkRat]
  show _=R.v ⟨decide ((0:Int) < 0),mg 0,_⟩
  rw [mg_zero]; rfl
 ·rw [if_neg h0]
  show _=R.v ⟨decide ((mkRat n d).num < 0),mg (mkRat n d).num.natAbs,if (mkRat n d).den=1 then ⟨⟨[]⟩⟩ else mg (mkRat n d).den⟩
  rw [e1,e2]
theorem bv_nil:bv (⟨⟨[]⟩⟩:ByteArray)=0:=rfl
theorem cr_nm (x:Rat):(cr x).nm=x.num:=zval_mg x.num
theorem cr_dn (x:Rat):(cr x).dn=x.den:=by
 have:=x.den_pos
 unfold R.dn cr
 rw [dden_bv]
 show max (bv (if x.den=1 then ⟨⟨[]⟩⟩ else mg x.den)) 1=x.den
 split
 ·rw [bv_nil]; omega
 ·rw [bv_mg]; omega
theorem cr_q (x:Rat):(cr x).q=x:=by
 unfold R.q
 rw [cr_nm,cr_dn,Rat.mkRat_self]
theorem cr_inj {x y:Rat} (h:cr x=cr y):x=y:=by
 have:=congrArg R.q h
 rwa [cr_q,cr_q] at this
theorem cr_iff {x y:Rat}:cr x=cr y ↔ x=y:=⟨cr_inj,fun h=>by rw [h]⟩
/-- Numerator and denominator have at most k digits. -/
structure Bd (k:Nat) (x:Rat):Prop where
 n:x.num.natAbs < 256 ^ k
 d:x.den < 256 ^ k
theorem Bd.pos {k:Nat} {x:Rat} (h:Bd k x):1<=k:=by
 have:=h.d; have:=x.den_pos
 cases k with
 | zero=>simp at this; omega
 | succ k=>omega
theorem Bd.mono {k l:Nat} {x:Rat} (h:Bd k x) (hl:k<=l):Bd l x:=
 ⟨Nat.lt_of_lt_of_le h.n (pow256_mono hl),Nat.lt_of_lt_of_le h.d (pow256_mono hl)⟩
theorem Bd.mk' {n:Int} {d k:Nat} (hn:n.natAbs < 256 ^ k) (hd:d < 256 ^ k) (h:0 < d):Bd k (mkRat n d):=by
 have g:0 < d.gcd n.natAbs:=Nat.gcd_pos_of_pos_left _ h
 constructor
 ·rw [Rat.num_mkRat,if_neg (by omega)]
  have h1:((d.gcd n.natAbs:Nat):Int) ∣ n:=Int.ofNat_dvd_left.2 (Nat.gcd_dvd_right _ _)
  rw [Int.natAbs_ediv_of_dvd h1]
  exact Nat.lt_of_le_of_lt (Nat.div_le_self _ _) hn
 ·rw [Rat.den_mkRat,if_neg (by omega)]
  exact Nat.lt_of_le_of_lt (Nat.div_le_self _ _) hd
theorem mul_lt256 {a b k l:Nat} (ha:a < 256 ^ k) (hb:b < 256 ^ l):a*b < 256 ^ (k+l):=by
 rw [Nat.pow_add]; exact Nat.mul_lt_mul'' ha hb
theorem Bd.add {k l:Nat} {x y:Rat} (hx:Bd k x) (hy:Bd l y):Bd (k+l+1) (x+y):=by
 rw [Rat.add_def']
 have h1:=mul_lt256 hx.n hy.d
 have h2:=mul_lt256 hy.n hx.d
 have h3:=mul_lt256 hx.d hy.d
 have h4:(256:Nat) ^ (k+l+1)=256 ^ (k+l)*256:=Nat.pow_succ ..
 rw [Nat.add_comm l k] at h2
 refine Bd.mk' ?_ (by omega) (Nat.mul_pos x.den_pos y.den_pos)
 have e1:(x.num*(y.den:Int)).natAbs=x.num.natAbs*y.den:=by rw [Int.natAbs_mul]; rfl
 have e2:(y.num*(x.den:Int)).natAbs=y.num.natAbs*x.den:=by rw [Int.natAbs_mul]; rfl
 omega
theorem Bd.neg {k:Nat} {x:Rat} (hx:Bd k x):Bd k (-x):=⟨by rw [Rat.neg_num,Int.natAbs_neg]; exact hx.n,hx.d⟩
theorem Bd.sub {k l:Nat} {x y:Rat} (hx:Bd k x) (hy:Bd l y):Bd (k+l+1) (x - y):=by
 rw [Rat.sub_eq_add_neg]; exact hx.add hy.neg
theorem Bd.mul {k l:Nat} {x y:Rat} (hx:Bd k x) (hy:Bd l y):Bd (k+l) (x*y):=by
 rw [Rat.mul_def']
 exact Bd.mk' (by rw [Int.natAbs_mul]; exact mul_lt256 hx.n hy.n) (mul_lt256 hx.d hy.d) (Nat.mul_pos x.den_pos y.den_pos)
theorem Bd.inv {k:Nat} {x:Rat} (hx:Bd k x):Bd k x⁻¹:=by
 have h1:=hx.n
 have h2:=hx.d
 have h3:=Nat.lt_of_lt_of_le (show 1 < 256 ^ 1 by decide) (pow256_mono hx.pos)
 constructor
 ·rw [Rat.num_inv,Int.natAbs_mul,Int.natAbs_sign]
  split
  ·rw [Nat.zero_mul]; omega
  ·rw [Nat.one_mul]; exact h2
 ·rw [Rat.den_inv]
  split<;>omega
theorem Bd.div {k l:Nat} {x y:Rat} (hx:Bd k x) (hy:Bd l y):Bd (k+l) (x / y):=by
 rw [Rat.div_def]; exact hx.mul hy.inv
theorem Bd.int {k:Nat} {n:Int} (h:n.natAbs < 256 ^ k) (hk:1<=k):Bd k (n:Rat):=
 ⟨h,Nat.lt_of_lt_of_le (show 1 < 256 ^ 1 by decide) (pow256_mono hk)⟩
/-- A number of at most k digits, and its value. -/
structure Is (k:Nat) (a:R) (x:Rat):Prop where
 n:a.num.size<=k
 d:a.den.size<=k
 q:a.q=x
 b:Bd k x
theorem Is.of (a:R) {k:Nat} (h1:a.num.size<=k) (h2:a.den.size<=k) (hk:1<=k):Is k a a.q:=by
 refine ⟨h1,h2,rfl,Bd.mk' ?_ ?_ a.dn_pos⟩
 ·unfold R.nm; rw [zval_abs]; exact Nat.lt_of_lt_of_le (bv_lt _) (pow256_mono h1)
 ·have h:=dden_size a.den
  exact Nat.lt_of_lt_of_le (bv_lt _) (pow256_mono (by omega))
theorem Is.mono {k l:Nat} {a:R} {x:Rat} (h:Is k a x) (hl:k<=l):Is l a x:=
 ⟨Nat.le_trans h.n hl,Nat.le_trans h.d hl,h.q,h.b.mono hl⟩
theorem Bd.is {k:Nat} {x:Rat} (h:Bd k x):Is k (cr x) x:=by
 refine ⟨mg_size_le h.n,?_,cr_q x,h⟩
 show (if x.den=1 then ⟨⟨[]⟩⟩ else mg x.den:ByteArray).size<=k
 split
 ·exact Nat.zero_le _
 ·exact mg_size_le h.d
/-- -1, 0 or 1: how two numbers are ordered. -/
def cmpQ (x y:Rat):Int:=if x < y then -1 else if y < x then 1 else 0
theorem mkRat_lt {n m:Int} {d e:Nat} (hd:0 < d) (he:0 < e):mkRat n d < mkRat m e ↔ n*e < m*d:=by
 have h1:(0:Rat) < (d:Rat):=Rat.natCast_pos.2 hd
 have h2:(0:Rat) < (e:Rat):=Rat.natCast_pos.2 he
 rw [Rat.mkRat_eq_div,Rat.mkRat_eq_div,Rat.div_lt_iff h1,Rat.div_def,Rat.mul_assoc,Rat.mul_comm ((e:Rat)⁻¹),<-Rat.mul_assoc,<-Rat.div_def,Rat.lt_div_iff h2]
 rw [<-Rat.intCast_natCast,<-Rat.intCast_natCast,<-Rat.intCast_mul,<-Rat.intCast_mul,Rat.intCast_lt_intCast]
theorem cmpI_q {n m:Int} {d e:Nat} (hd:0 < d) (he:0 < e):cmpI (n*e) (m*d)=cmpQ (mkRat n d) (mkRat m e):=by
 unfold cmpI cmpQ
 have h1:=mkRat_lt (n:=n) (m:=m) hd he
 have h2:=mkRat_lt (n:=m) (m:=n) he hd
 by_cases c1:n*e < m*d
 ·rw [if_pos c1,if_pos (h1.2 c1)]
 ·rw [if_neg c1,if_neg (fun h=>c1 (h1.1 h))]
  by_cases c2:n*e > m*d
  ·rw [if_pos c2,if_pos (h2.2 c2)]
  ·rw [if_neg c2,if_neg (fun h=>c2 (h2.1 h))]
theorem dn_max (a:R):(max (bv a.den:Int) 1)=(a.dn:Int):=by
 unfold R.dn; rw [dden_bv]; omega
theorem add_q {a b:R} {x y:Rat} {k l:Nat} (ha:Is k a x) (hb:Is l b y) (h:k+l<=134217728):Con Tryz.prog 45 [.v a.v,.v b.v] (.v (cr (x+y)).v):=by
 have e:x+y=mkRat (a.nm*b.dn+b.nm*a.dn) (a.dn*b.dn):=by
  have:=a.dn_pos; have:=b.dn_pos
  rw [<-ha.q,<-hb.q]; exact Rat.mkRat_add_mkRat _ _ (by omega) (by omega)
 rw [e,<-rI_cr _ _ (Nat.mul_pos a.dn_pos b.dn_pos)]
 have:=ha.n; have:=ha.d; have:=hb.n; have:=hb.d
 have:=dden_size a.den; have:=dden_size b.den
 by_cases hs:(3 < a.num.size\/3 < a.den.size)\/(3 < b.num.size\/3 < b.den.size)
 ·exact add_great a.neg b.neg a.num a.den b.num b.den (by omega) (by omega) (by omega) (by omega) (by omega) (by omega) a.dn_pos b.dn_pos hs
 ·have hc:=add_small a.neg b.neg a.num a.den b.num b.den (by omega) (by omega) (by omega) (by omega)
  rw [dn_max,dn_max,<-Int.natCast_mul] at hc
  exact hc
theorem mul_q {a b:R} {x y:Rat} {k l:Nat} (ha:Is k a x) (hb:Is l b y) (h:k+l<=134217728):Con Tryz.prog 46 [.v a.v,.v b.v] (.v (cr (x*y)).v):=by
 have e:x*y=mkRat (a.nm*b.nm) (a.dn*b.dn):=by
  have:=a.dn_pos; have:=b.dn_pos
  rw [<-ha.q,<-hb.q]; exact Rat.mkRat_mul_mkRat _ _ _ _
 rw [e,<-rI_cr _ _ (Nat.mul_pos a.dn_pos b.dn_pos)]
 have:=ha.n; have:=ha.d; have:=hb.n; have:=hb.d
 have:=dden_size a.den; have:=dden_size b.den
 by_cases hs:(3 < a.num.size\/3 < a.den.size)\/(3 < b.num.size\/3 < b.den.size)
 ·exact mul_great a.neg b.neg a.num a.den b.num b.den (by omega) (by omega) (by omega) (by omega) (by omega) (by omega) a.dn_pos b.dn_pos hs
 ·have hc:=mul_small a.neg b.neg a.num a.den b.num b.den (by omega) (by omega) (by omega) (by omega)
  rw [dn_max,dn_max,<-Int.natCast_mul] at hc
  exact hc
theorem cmp_q {a b:R} {x y:Rat} {k l:Nat} (ha:Is k a x) (hb:Is l b y) (h:k+l<=134217728):Con Tryz.prog 88 [.v a.v,.v b.v] (.v (.int .i64 (cmpQ x y))):=by
 have e:cmpQ x y=cmpI (a.nm*b.dn) (b.nm*a.dn):=by
  rw [<-ha.q,<-hb.q]; exact (cmpI_q a.dn_pos b.dn_pos).symm
 rw [e]
 have:=ha.n; have:=ha.d; have:=hb.n; have:=hb.d
 have:=dden_size a.den; have:=dden_size b.den
 by_cases hs:(3 < a.num.size\/3 < a.den.size)\/(3 < b.num.size\/3 < b.den.size)
 ·exact cmp_great a.neg b.neg a.num a.den b.num b.den (by omega) (by omega) (by omega) (by omega) (by omega) (by omega) hs
 ·have hc:=cmp_small a.neg b.neg a.num a.den b.num b.den (by omega) (by omega) (by omega) (by omega)
  rw [dn_max,dn_max] at hc
  exact hc
theorem CallTo.b {P P':Program} {E:Env} (hP:P'=P) (hE:E=std) {f:FuncId} {h:List Blk} {args:List AV} {ts:List T} {n:Bool} {K:AV->List Blk->Prop} (hc:Con P f ts (.v (.bool n))) (hf:fits E h args ts) (hk:∀ m:Bool,m=n->K (.v (.bool m)) h):CallTo P' h f args K:=by
 refine CallTo.con hP hE hc hf ?_
 have:=hk n rfl
 simp only [outV,outW,List.append_nil]
 exact this
/-- A call that hands back a value, kept as it is. -/
theorem CallTo.w {P P':Program} {E:Env} (hP:P'=P) (hE:E=std) {f:FuncId} {h:List Blk} {args:List AV} {ts:List T} {v:Value} {K:AV->List Blk->Prop} (hc:Con P f ts (.v v)) (hf:fits E h args ts) (hk:K (.v v) h):CallTo P' h f args K:=by
 refine CallTo.con hP hE hc hf ?_
 simp only [outV,outW,List.append_nil]
 exact hk
theorem R.not_q (n:Bool) (u d:ByteArray):(R.mk (!n) u d).q = - (R.mk n u d).q:=by
 unfold R.q
 rw [Rat.neg_mkRat]
 show mkRat (zval (!n) u) _=mkRat (- zval n u) _
 rw [zval_not]; rfl
theorem Is.not {n:Bool} {u d:ByteArray} {x:Rat} {k:Nat} (h:Is k ⟨n,u,d⟩ x):Is k ⟨!n,u,d⟩ (-x):=
 ⟨h.n,h.d,by rw [R.not_q,h.q],h.b.neg⟩
theorem Is.zero:Is 1 ⟨false,⟨⟨[]⟩⟩,⟨⟨[]⟩⟩⟩ 0:=by
 have h:cr 0=⟨false,⟨⟨[]⟩⟩,⟨⟨[]⟩⟩⟩:=by
  show R.mk (decide ((0:Int) < 0)) (mg 0) ⟨⟨[]⟩⟩=_
  rw [mg_zero]; rfl
 have h2:=(Bd.int (k:=1) (n:=0) (by decide) (by decide)).is
 have e:((0:Int):Rat)=0:=rfl
 rw [e,h] at h2
 exact h2
theorem cr_zero:cr 0=⟨false,⟨⟨[]⟩⟩,⟨⟨[]⟩⟩⟩:=by
 show R.mk (decide ((0:Int) < 0)) (mg 0) ⟨⟨[]⟩⟩=_
 rw [mg_zero]; rfl
theorem Is.sz {a:R} {x:Rat} {k:Nat} (h:Is k a x) (hk:k<=134217728):a.num.size<=4294967296/\a.den.size<=4294967296/\(dden a.den).size<=4294967296/\(dden a.den).size<=max k 1:=by
 have:=h.n; have:=h.d; have:=dden_size a.den
 omega
theorem sub_q {a b:R} {x y:Rat} {k l:Nat} (ha:Is k a x) (hb:Is l b y) (h:k+l<=134217728):Con Tryz.prog 202 [.v a.v,.v b.v] (.v (cr (x - y)).v):=by
 obtain ⟨n1,u1,d1⟩:=a
 obtain ⟨n2,u2,d2⟩:=b
 have hc:=add_q ha hb.not h
 rw [<-Rat.sub_eq_add_neg] at hc
 obtain ⟨r,hr⟩:∃ r,r=cr (x - y):=⟨_,rfl⟩
 rw [<-hr] at hc ⊢
 refine Con.of ttOk mixed Tryz.func202 {} .nil 0 (by kernel_rfl) (fun P' E hP hE=>?_)
 clear hr
 cbv
 refine CallTo.w hP hE hc (by subst hE; exact ⟨rfl,rfl,trivial⟩) ?_
 cbv
theorem norm_con (a:R) {x:Rat} {k:Nat} (h:Is k a x) (hk:k<=134217728):Con Tryz.prog 128 [.v (fR a.neg a.num false (dden a.den))] (.v (cr x).v):=by
 have q:=h.sz hk
 have hc:=number_con a.neg a.num (dden a.den) a.dn_pos q.1 q.2.2.1
 rw [rI_cr _ _ (show 0 < bv (dden a.den) from a.dn_pos)] at hc
 rw [<-h.q]
 exact hc
theorem sign_q {a:R} {x:Rat} {k:Nat} (ha:Is k a x) (h:k<=134217728):Con Tryz.prog 97 [.v a.v] (.v (.int .i64 (cmpQ x 0))):=by
 have c1:=of98_con a.neg a.num a.den (ha.sz h).2.1
 have c2:=compare_z a.neg false a.num ⟨⟨[]⟩⟩ (ha.sz h).1 (by decide)
 have e:cmpI (zval a.neg a.num) (zval false ⟨⟨[]⟩⟩)=cmpQ x 0:=by
  have e1:=cmpI_q (n:=a.nm) (m:=0) (d:=a.dn) (e:=1) a.dn_pos (by decide)
  have e2:mkRat 0 1=0:=Rat.zero_mkRat 1
  rw [e2] at e1
  have e3:mkRat a.nm a.dn=x:=ha.q
  rw [e3] at e1
  rw [<-e1]
  have e4:zval false ⟨⟨[]⟩⟩=0:=rfl
  rw [e4]
  show cmpI a.nm 0=_
  simp
 rw [e] at c2
 obtain ⟨r,hr⟩:∃ r,r=cmpQ x 0:=⟨_,rfl⟩
 rw [<-hr] at c2 ⊢
 obtain ⟨e1,he1⟩:∃ e,e=dden a.den:=⟨_,rfl⟩
 rw [<-he1] at c1
 unfold rR fR at c1
 unfold zR at c2
 obtain ⟨n1,u1,d1⟩:=a
 refine Con.of ttOk mixed Tryz.func97 {} .nil 0 (by kernel_rfl) (fun P' E hP hE=>?_)
 clear hr he1 e
 cbv
 refine CallTo.w hP hE c1 (by subst hE; exact ⟨rfl,trivial⟩) ?_
 cbv
 refine CallTo.w hP hE c2 (by subst hE; exact ⟨rfl,rfl,trivial⟩) ?_
 cbv
theorem int_q (n:Int):mkRat n 1=(n:Rat):=by
 rw [Rat.mkRat_eq_div]
 show (n:Rat) / 1=n
 grind
theorem mgz_size {n:Int} (h0 : -9223372036854775808<=n) (h1:n < 9223372036854775808):(mg n.natAbs).size<=8:=mg_size_le (by
 have:(256:Nat) ^ 8=18446744073709551616:=by decide
 omega)
theorem ofQ_q (n:Int) (h0 : -9223372036854775808<=n) (h1:n < 9223372036854775808):Con Tryz.prog 44 [.v (.int .i64 n)] (.v (cr (n:Rat)).v):=by
 have c1:=of_con n h0 h1
 have c2:=of_con 1 (by decide) (by decide)
 have hs:=mgz_size h0 h1
 have c3:=number_con (decide (n < 0)) (mg n.natAbs) (mg 1) (by rw [bv_mg]; decide) (by omega) (by have:(mg 1).size<=1:=mg_size_le (by decide); omega)
 rw [zval_mg,bv_mg,rI_cr _ _ (by decide),int_q] at c3
 obtain ⟨r,hr⟩:∃ r,r=cr (n:Rat):=⟨_,rfl⟩
 rw [<-hr] at c3 ⊢
 obtain ⟨s,hs1⟩:∃ s,s=decide (n < 0):=⟨_,rfl⟩
 obtain ⟨m,hm⟩:∃ s,s=mg n.natAbs:=⟨_,rfl⟩
 obtain ⟨m1,hm1⟩:∃ s,s=mg 1:=⟨_,rfl⟩
 have e1:zV n=.agg #[.bool s,.string m]:=by rw [hs1,hm]; rfl
 have e2:zV 1=.agg #[.bool false,.string m1]:=by rw [hm1]; rfl
 rw [e1] at c1
 rw [e2] at c2
 rw [<-hs1,<-hm,<-hm1] at c3
 unfold fR at c3
 refine Con.of ttOk mixed Tryz.func44 {} .nil 0 (by kernel_rfl) (fun P' E hP hE=>?_)
 clear hr hs1 hm hm1 e1 e2 hs
 cbv
 refine CallTo.w hP hE c1 (by subst hE; exact ⟨rfl,trivial⟩) ?_
 cbv
 refine CallTo.w hP hE c2 (by subst hE; exact ⟨rfl,trivial⟩) ?_
 cbv
 refine CallTo.w hP hE c3 (by subst hE; exact ⟨rfl,trivial⟩) ?_
 cbv
/-- The error of a division. -/
def dvE (y:Rat):Int:=if y=0 then 10 else 0
theorem ratio_zz (a b:Int) (hb:0 < b):mkRat a b.natAbs=(a:Rat) / (b:Rat):=by
 rw [Rat.mkRat_eq_div]
 have:((b.natAbs:Nat):Int)=b:=by omega
 rw [<-Rat.intCast_natCast,this]
theorem new_q (na nb:Bool) (ma mb:ByteArray) (ha:ma.size<=2147483648) (hb:mb.size<=2147483648):Con Tryz.prog 121 [.v (zR na ma),.v (zR nb mb)] (.v (.tuple #[(cr ((zval na ma:Rat) / (zval nb mb:Rat))).v,.int .i64 (dvE (zval nb mb:Rat))])):=by
 have c1:=compare_z nb false mb ⟨⟨[]⟩⟩ (by omega) (by decide)
 have e0:zval false ⟨⟨[]⟩⟩=0:=rfl
 rw [e0] at c1
 have c2:=neg_con na ma (by omega)
 have c3:=neg_con nb mb (by omega)
 obtain ⟨r,hr⟩:∃ r,r=cr ((zval na ma:Rat) / (zval nb mb:Rat)):=⟨_,rfl⟩
 obtain ⟨n,hn⟩:∃ x,x=zval na ma:=⟨_,rfl⟩
 obtain ⟨d,hd⟩:∃ x,x=zval nb mb:=⟨_,rfl⟩
 have sn:n.natAbs < 256 ^ ma.size:=by rw [hn,zval_abs]; exact bv_lt ma
 have sd:d.natAbs < 256 ^ mb.size:=by rw [hd,zval_abs]; exact bv_lt mb
 have dm:bv mb=d.natAbs:=by rw [hd,zval_abs]
 obtain ⟨e,he⟩:∃ x,x=dvE (d:Rat):=⟨_,rfl⟩
 rw [<-hn,<-hd] at hr
 rw [<-hn,<-hd,<-he,<-hr]
 rw [<-hn] at c2
 rw [<-hd] at c1 c3
 -- the three ways
 have c4:0 < d->Con Tryz.prog 128 [.v (fR na ma nb mb)] (.v r.v):=fun h=>by
  have hnb:nb=false:=by
   cases nb
   ·rfl
   ·unfold zval at hd; simp at hd; omega
  subst hnb
  have c:=number_con na ma mb (by omega) (by omega) (by omega)
  rw [rI_cr _ _ (by omega),<-hn,dm,ratio_zz n d h,<-hr] at c
  exact c
 have c5:d < 0->Con Tryz.prog 128 [.v (fR (decide (-n < 0)) (mg (-n).natAbs) (decide (-d < 0)) (mg (-d).natAbs))] (.v r.v):=fun h=>by
  have h1:decide (-d < 0)=false:=decide_eq_false (by omega)
  rw [h1]
  have q1:(mg (-n).natAbs).size<=ma.size:=mg_size_le (by rw [Int.natAbs_neg]; exact sn)
  have q2:(mg (-d).natAbs).size<=mb.size:=mg_size_le (by rw [Int.natAbs_neg]; exact sd)
  have c:=number_con (decide (-n < 0)) (mg (-n).natAbs) (mg (-d).natAbs) (by rw [bv_mg]; omega) (by omega) (by omega)
  rw [rI_cr _ _ (by rw [bv_mg]; omega),zval_mg,bv_mg,ratio_zz (-n) (-d) (by omega)] at c
  have e:((-n:Int):Rat) / ((-d:Int):Rat)=(n:Rat) / (d:Rat):=by
   have hd0:(d:Rat) ≠ 0:=fun hh=>by
    have:=Rat.intCast_eq_zero_iff.1 hh; omega
   rw [Rat.intCast_neg,Rat.intCast_neg]
   grind
  rw [e,<-hr] at c
  exact c
 have g0:d=0->r=⟨false,⟨⟨[]⟩⟩,⟨⟨[]⟩⟩⟩/\e=10:=fun h=>by
  subst h
  refine ⟨?_,by rw [he]; rfl⟩
  rw [hr]
  have:(n:Rat) / ((0:Int):Rat)=0:=by
   rw [Rat.div_def,show (((0:Int):Rat))⁻¹=0 from Rat.inv_zero,Rat.mul_zero]
  rw [this,cr_zero]
 have g1:d ≠ 0->e=0:=fun h=>by
  rw [he,dvE,if_neg (fun hh=>h (Rat.intCast_eq_zero_iff.1 hh))]
 obtain ⟨s,hs⟩:∃ s,s=cmpI d 0:=⟨_,rfl⟩
 have hs3:(d < 0/\s = -1)\/(0 < d/\s=1)\/(d=0/\s=0):=by
  rw [hs]; unfold cmpI
  by_cases a:d < 0
  ·rw [if_pos a]; omega
  ·rw [if_neg a]
   by_cases b:d > 0
   ·rw [if_pos b]; omega
   ·rw [if_neg b]; omega
 have k0:s=0->d=0:=fun h=>by omega
 have k1:¬ s=0->s = -1->d < 0:=fun _ h=>by omega
 have k2:¬ s=0->¬ s = -1->0 < d:=fun h1 h=>by omega
 rw [<-hs] at c1
 obtain ⟨s2,m2,z2⟩:∃ s m,s=decide (-n < 0)/\m=mg (-n).natAbs:=⟨_,_,rfl,rfl⟩
 obtain ⟨s3,m3,z3⟩:∃ s m,s=decide (-d < 0)/\m=mg (-d).natAbs:=⟨_,_,rfl,rfl⟩
 have e2:zV (-n)=.agg #[.bool s2,.string m2]:=by rw [z2.1,z2.2]; rfl
 have e3:zV (-d)=.agg #[.bool s3,.string m3]:=by rw [z3.1,z3.2]; rfl
 rw [e2] at c2
 rw [e3] at c3
 rw [<-z2.1,<-z2.2,<-z3.1,<-z3.2] at c5
 have f4:¬ s=0->¬ s = -1->Con Tryz.prog 128 [.v (fR na ma nb mb)] (.v r.v):=fun a b=>c4 (k2 a b)
 have f5:¬ s=0->s = -1->Con Tryz.prog 128 [.v (fR s2 m2 s3 m3)] (.v r.v):=fun a b=>c5 (k1 a b)
 have f0:s=0->r=⟨false,⟨⟨[]⟩⟩,⟨⟨[]⟩⟩⟩/\e=10:=fun h=>g0 (k0 h)
 have f1:¬ s=0->e=0:=fun h=>by
  refine g1 (fun hd=>h ?_)
  rw [hs,hd]; rfl
 clear c4 c5 g0 g1 k0 k1 k2
 unfold zR at c1 c2 c3 ⊢
 unfold fR at f4 f5
 refine Con.of ttOk mixed Tryz.func121 { ord:=[(5,[0,2,1,3,4,5])] } .nil 0 (by kernel_rfl) (fun P' E hP hE=>?_)
 clear hr hn hd sn sd dm he hs z2 z3 e2 e3 ha hb
 cbv
 refine CallTo.w hP hE c1 (by subst hE; exact ⟨rfl,rfl,trivial⟩) ?_
 cbv
 refine fork.mk ?_ ?_
 ·intro h1
  have q:=f0 (by
   subst hE
   have h:std.ic .eql s 0=true:=h1
   simpa using h)
  cbv
  rw [q.1,q.2]
 ·intro h1
  have h1':¬ s=0:=by
   subst hE
   have h:std.ic .eql s 0=false:=h1
   simpa using h
  have q:=f1 h1'
  cbv
  refine fork.mk ?_ ?_
  ·intro h2
   have c4:=f5 h1' (by
    subst hE
    have h:std.ic .eql s (-1)=true:=h2
    simpa using h)
   cbv
   refine CallTo.w hP hE c2 (by subst hE; exact ⟨rfl,trivial⟩) ?_
   cbv
   refine CallTo.w hP hE c3 (by subst hE; exact ⟨rfl,trivial⟩) ?_
   cbv
   refine CallTo.w hP hE c4 (by subst hE; exact ⟨rfl,trivial⟩) ?_
   cbv
   rw [q]
  ·intro h2
   have c4:=f4 h1' (by
    subst hE
    have h:std.ic .eql s (-1)=false:=h2
    simpa using h)
   cbv
   refine CallTo.w hP hE c4 (by subst hE; exact ⟨rfl,trivial⟩) ?_
   cbv
   rw [q]
end Go.Proofs.YtkipmmiiackdaaaGreat.Sx
