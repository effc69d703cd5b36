/- Part 28 of what the statement needs: an executor of Go texts, arithmetic, and contracts of the functions that are called. -/
import Derived.Test.YtkipmmiiackdaaaGreatCa21
import Derived.Test.YtkipmmiiackdaaaGreatCa22
import Derived.Test.YtkipmmiiackdaaaGreatCa23
import Derived.Test.YtkipmmiiackdaaaGreatCa27
set_option linter.unusedSimpArgs false
set_option linter.unusedVariables false
set_option maxHeartbeats 8000000
set_option maxRecDepth 100000
namespace Go.Proofs.YtkipmmiiackdaaaGreat.Sx
open Env (std)
theorem rsm_ex (neg:Bool) (num den:ByteArray):∃ (n d:Int) (f:Bool),Con Tryz.prog 272 [.v (.agg #[.bool neg,.string num,.string den])] (.v (.tuple #[.int .i64 n,.int .i64 d,.bool f]))/\(f=true->num.size<=3/\den.size<=3):=by
 by_cases h:num.size<=3/\den.size<=3
 ·exact ⟨_,_,true,rsm_yes neg num den h.1 h.2,fun _=>h⟩
 ·exact ⟨0,0,false,rsm_no neg num den (by omega),fun h=>by cases h⟩
/-- A product of integers in their parts. -/
theorem rmul_zp {z w:Int} {sa sb:Bool} {xa xb:ByteArray} (ha:Zp z sa xa) (hb:Zp w sb xb) (qa:xa.size<=1073741824) (qb:xb.size<=1073741824):∃ s x,Zp (z*w) s x/\x.size<=xa.size+xb.size/\Con Tryz.prog 161 [.v (.agg #[.bool sa,.string xa]),.v (.agg #[.bool sb,.string xb])] (.v (.agg #[.bool s,.string x])):=by
 have h:=rmul_con sa sb xa xb qa qb
 rw [ha.zval,hb.zval] at h
 obtain ⟨s,x,hz⟩:=Zp.ex (z*w)
 rw [hz.v] at h
 refine ⟨s,x,hz,?_,h⟩
 rw [hz.m]
 refine mg_size_le ?_
 rw [Int.natAbs_mul,Nat.pow_add]
 have h1:=bv_lt xa
 have h2:=bv_lt xb
 rw [ha.bv] at h1
 rw [hb.bv] at h2
 exact Nat.mul_lt_mul'' h1 h2
theorem radd_zp {z w:Int} {sa sb:Bool} {xa xb:ByteArray} (ha:Zp z sa xa) (hb:Zp w sb xb) (qa:xa.size<=1073741824) (qb:xb.size<=1073741824):∃ s x,Zp (z+w) s x/\x.size<=xa.size+xb.size+1/\Con Tryz.prog 236 [.v (.agg #[.bool sa,.string xa]),.v (.agg #[.bool sb,.string xb])] (.v (.agg #[.bool s,.string x])):=by
 have h:=radd_con sa sb xa xb qa qb
 rw [ha.zval,hb.zval] at h
 obtain ⟨s,x,hz⟩:=Zp.ex (z+w)
 rw [hz.v] at h
 refine ⟨s,x,hz,?_,h⟩
 rw [hz.m]
 refine mg_size_le ?_
 have h1:=bv_lt xa
 have h2:=bv_lt xb
 rw [ha.bv] at h1
 rw [hb.bv] at h2
 have h3:=pow256_mono (show xa.size<=xa.size+xb.size by omega)
 have h4:=pow256_mono (show xb.size<=xa.size+xb.size by omega)
 rw [Nat.pow_succ]
 omega
theorem rparts_zp (neg:Bool) (num den:ByteArray) {k:Nat} (hn:num.size<=k) (hd:den.size<=k) (hk:1<=k) (hk2:k<=134217728):∃ s x y,Zp (zval neg num) s x/\Zp (bv (dden den):Nat) false y/\x.size<=k/\y.size<=k/\Con Tryz.prog 241 [.v (.agg #[.bool neg,.string num,.string den])] (.v (.tuple #[.agg #[.bool s,.string x],.agg #[.bool false,.string y]])):=by
 have h:=rparts_con neg num den (by omega) (by omega)
 obtain ⟨s,x,hz⟩:=Zp.ex (zval neg num)
 have hy:=Zp.nat (bv (dden den))
 rw [hz.v,hy.v] at h
 refine ⟨s,x,_,hz,hy,by have:=hz.size; omega,?_,h⟩
 have h1:(mg (bv (dden den))).size<=(dden den).size:=mg_size_le (bv_lt _)
 have h2:=dden_size den
 omega
theorem small_bd {u:ByteArray} (h:u.size<=3):bv u < 16777216:=by
 have h1:=bv_lt u
 have h2:=pow256_mono h
 have h3:(256:Nat) ^ 3=16777216:=by decide
 omega
theorem small_dd {u:ByteArray} (h:u.size<=3):0 < bv (dden u)/\bv (dden u) < 16777216/\max (bv u:Int) 1=(bv (dden u):Nat):=by
 have:=small_bd h
 rw [dden_bv]
 exact ⟨by omega,by omega,by omega⟩
theorem abs_mul_lt {a b:Int} (ha:a.natAbs < 16777216) (hb:b.natAbs < 16777216):(a*b).natAbs < 281474976710656:=by
 rw [Int.natAbs_mul]
 have:=Nat.mul_lt_mul'' ha hb
 omega
theorem radd_raw (na nb:Bool) (u v u' v':ByteArray) {k l:Nat} (h1:u.size<=k) (h2:v.size<=k) (h3:u'.size<=l) (h4:v'.size<=l) (hk:1<=k) (hl:1<=l) (hkl:k+l<=134217728):Con Tryz.prog 184 [.v (rR na u v),.v (rR nb u' v')] (.v (rI (zval na u*(bv (dden v'):Nat)+zval nb u'*(bv (dden v):Nat)) (bv (dden v)*bv (dden v')))):=by
 have dp:0 < bv (dden v):=by rw [dden_bv]; omega
 have dp':0 < bv (dden v'):=by rw [dden_bv]; omega
 obtain ⟨rs,rn,rd,hres⟩:∃ a b c,rI (zval na u*(bv (dden v'):Nat)+zval nb u'*(bv (dden v):Nat)) (bv (dden v)*bv (dden v'))=.agg #[.bool a,.string b,.string c]:=by
  unfold rI
  split
  ·exact ⟨_,_,_,rfl⟩
  ·exact ⟨_,_,_,rfl⟩
 by_cases hs:(u.size<=3/\v.size<=3)/\(u'.size<=3/\v'.size<=3)
 ·have s1:=rsm_yes na u v hs.1.1 hs.1.2
  have s2:=rsm_yes nb u' v' hs.2.1 hs.2.2
  have d1:=small_dd hs.1.2
  have d2:=small_dd hs.2.2
  have b1:(zval na u).natAbs < 16777216:=by rw [zval_abs]; exact small_bd hs.1.1
  have b2:(zval nb u').natAbs < 16777216:=by rw [zval_abs]; exact small_bd hs.2.1
  rw [d1.2.2] at s1
  rw [d2.2.2] at s2
  have p1:=abs_mul_lt (a:=zval na u) (b:=(bv (dden v'):Nat)) b1 (by have:=d2.2.1; omega)
  have p2:=abs_mul_lt (a:=zval nb u') (b:=(bv (dden v):Nat)) b2 (by have:=d1.2.1; omega)
  have p3:=abs_mul_lt (a:=zval na u) (b:=zval nb u') b1 b2
  have p4:=abs_mul_lt (a:=(bv (dden v):Nat)) (b:=(bv (dden v'):Nat)) (by have:=d1.2.1; omega) (by have:=d2.2.1; omega)
  have p5:bv (dden v)*bv (dden v') < 281474976710656:=by
   rw [<-Int.natCast_mul,Int.natAbs_natCast] at p4; exact p4
  have pk:=rpack_con (zval na u*(bv (dden v'):Nat)+zval nb u'*(bv (dden v):Nat)) (bv (dden v)*bv (dden v')) (Nat.mul_pos dp dp') (by omega) (by omega)
  have w1:std.ib .mul .i64 (zval na u) (bv (dden v'):Nat)=zval na u*(bv (dden v'):Nat):=by rw [s_mul,w64 (by omega) (by omega)]
  have w2:std.ib .mul .i64 (zval nb u') (bv (dden v):Nat)=zval nb u'*(bv (dden v):Nat):=by rw [s_mul,w64 (by omega) (by omega)]
  have w3:std.ib .mul .i64 (zval na u) (zval nb u')=zval na u*zval nb u':=by rw [s_mul,w64 (by omega) (by omega)]
  have w4:std.ib .mul .i64 (bv (dden v):Nat) (bv (dden v'):Nat)=((bv (dden v)*bv (dden v'):Nat):Int):=by rw [s_mul,w64 (by omega) (by omega),Int.natCast_mul]
  have w5:std.ib .add .i64 (std.ib .mul .i64 (zval na u) (bv (dden v'):Nat)) (std.ib .mul .i64 (zval nb u') (bv (dden v):Nat))=zval na u*(bv (dden v'):Nat)+zval nb u'*(bv (dden v):Nat):=by rw [w1,w2,s_add,w64 (by omega) (by omega)]
  obtain ⟨D,hD⟩:∃ D:Int,D=((bv (dden v)*bv (dden v'):Nat):Int):=⟨_,rfl⟩
  obtain ⟨n,hn⟩:∃ n,n=zval na u:=⟨_,rfl⟩
  obtain ⟨m,hm⟩:∃ n,n=zval nb u':=⟨_,rfl⟩
  obtain ⟨d,hd⟩:∃ n:Int,n=(bv (dden v):Nat):=⟨_,rfl⟩
  obtain ⟨e,he⟩:∃ n:Int,n=(bv (dden v'):Nat):=⟨_,rfl⟩
  rw [hres] at pk ⊢
  rw [<-hD] at pk w4
  rw [<-hn,<-hm,<-hd,<-he] at pk w5
  rw [<-hd,<-he] at w4
  obtain ⟨N,hN⟩:∃ N:Int,N=n*e+m*d:=⟨_,rfl⟩
  rw [<-hN] at pk w5
  rw [<-hn,<-hd] at s1
  rw [<-hm,<-he] at s2
  clear p1 p2 p3 p4 p5 w1 w2 w3 hD hN hres hn hm hd he b1 b2 d1 d2 dp dp'
  unfold rR at *
  refine Con.of ttOk mixed Tryz.func184 { ord:=[(7,[0,1,3,4,7,8,2,5,6,9,10,11])] } .nil 0 (by kernel_rfl) (fun P' E hP hE=>?_)
  cbv
  refine CallTo.w hP hE s1 ⟨rfl,trivial⟩ ?_
  cbv
  refine CallTo.w hP hE s2 ⟨rfl,trivial⟩ ?_
  cbv
  refine fork.ya rfl ?_
  cbv
  refine fork.ya rfl ?_
  cbv
  refine CallTo.con hP hE pk (by subst hE; exact ⟨congrArg (Value.int .i64) w5,congrArg (Value.int .i64) w4,trivial⟩) ?_
  cbv
 ·obtain ⟨n1,d1,f1,s1,q1⟩:=rsm_ex na u v
  obtain ⟨n2,d2,f2,s2,q2⟩:=rsm_ex nb u' v'
  obtain ⟨sa,xa,ya,za,wa,la,ma,pa⟩:=rparts_zp na u v h1 h2 hk (by omega)
  obtain ⟨sb,xb,yb,zb,wb,lb,mb,pb⟩:=rparts_zp nb u' v' h3 h4 hl (by omega)
  obtain ⟨t1,y1,z1,l1,m1⟩:=rmul_zp za wb (by omega) (by omega)
  obtain ⟨t2,y2,z2,l2,m2⟩:=rmul_zp zb wa (by omega) (by omega)
  obtain ⟨t3,y3,z3,l3,m3⟩:=radd_zp z1 z2 (by omega) (by omega)
  obtain ⟨t4,y4,z4,l4,m4⟩:=rmul_zp wa wb (by omega) (by omega)
  have e4:t4=false:=by
   rw [z4.s]
   have:=Int.mul_nonneg (Int.natCast_nonneg (bv (dden v))) (Int.natCast_nonneg (bv (dden v')))
   exact decide_eq_false (by omega)
  subst e4
  have b4:bv y4=bv (dden v)*bv (dden v'):=by rw [z4.bv,<-Int.natCast_mul]; rfl
  have m5:=rreduce_con t3 y3 y4 (by omega) (by omega) (by rw [b4]; exact Nat.mul_pos dp dp')
  rw [z3.zval,b4,hres] at m5
  rw [hres]
  clear za zb wa wb z1 z2 z3 z4 b4 hres dp dp'
  unfold rR zR at *
  refine Con.of ttOk mixed Tryz.func184 { ord:=[(7,[0,1,3,4,7,8,2,5,6,9,10,11])] } .nil 0 (by kernel_rfl) (fun P' E hP hE=>?_)
  cbv
  refine CallTo.w hP hE s1 ⟨rfl,trivial⟩ ?_
  cbv
  refine CallTo.w hP hE s2 ⟨rfl,trivial⟩ ?_
  cbv
  refine fork.mk ?_ ?_
  ·intro g1
   cbv
   refine fork.na (by
    cases hf:f2 with
    | false=>rfl
    | true=>exact absurd ⟨q1 g1,q2 hf⟩ hs) ?_
   cbv
   refine CallTo.w hP hE pa ⟨rfl,trivial⟩ ?_
   cbv
   refine CallTo.w hP hE pb ⟨rfl,trivial⟩ ?_
   cbv
   refine CallTo.w hP hE m1 ⟨rfl,rfl,trivial⟩ ?_
   cbv
   refine CallTo.w hP hE m2 ⟨rfl,rfl,trivial⟩ ?_
   cbv
   refine CallTo.w hP hE m3 ⟨rfl,rfl,trivial⟩ ?_
   cbv
   refine CallTo.w hP hE m4 ⟨rfl,rfl,trivial⟩ ?_
   cbv
   refine CallTo.w hP hE m5 ⟨rfl,rfl,trivial⟩ ?_
   cbv
  ·intro g1
   cbv
   refine CallTo.w hP hE pa ⟨rfl,trivial⟩ ?_
   cbv
   refine CallTo.w hP hE pb ⟨rfl,trivial⟩ ?_
   cbv
   refine CallTo.w hP hE m1 ⟨rfl,rfl,trivial⟩ ?_
   cbv
   refine CallTo.w hP hE m2 ⟨rfl,rfl,trivial⟩ ?_
   cbv
   refine CallTo.w hP hE m3 ⟨rfl,rfl,trivial⟩ ?_
   cbv
   refine CallTo.w hP hE m4 ⟨rfl,rfl,trivial⟩ ?_
   cbv
   refine CallTo.w hP hE m5 ⟨rfl,rfl,trivial⟩ ?_
   cbv
theorem rmulq_raw (na nb:Bool) (u v u' v':ByteArray) {k l:Nat} (h1:u.size<=k) (h2:v.size<=k) (h3:u'.size<=l) (h4:v'.size<=l) (hk:1<=k) (hl:1<=l) (hkl:k+l<=134217728):Con Tryz.prog 183 [.v (rR na u v),.v (rR nb u' v')] (.v (rI (zval na u*zval nb u') (bv (dden v)*bv (dden v')))):=by
 have dp:0 < bv (dden v):=by rw [dden_bv]; omega
 have dp':0 < bv (dden v'):=by rw [dden_bv]; omega
 obtain ⟨rs,rn,rd,hres⟩:∃ a b c,rI (zval na u*zval nb u') (bv (dden v)*bv (dden v'))=.agg #[.bool a,.string b,.string c]:=by
  unfold rI
  split
  ·exact ⟨_,_,_,rfl⟩
  ·exact ⟨_,_,_,rfl⟩
 by_cases hs:(u.size<=3/\v.size<=3)/\(u'.size<=3/\v'.size<=3)
 ·have s1:=rsm_yes na u v hs.1.1 hs.1.2
  have s2:=rsm_yes nb u' v' hs.2.1 hs.2.2
  have d1:=small_dd hs.1.2
  have d2:=small_dd hs.2.2
  have b1:(zval na u).natAbs < 16777216:=by rw [zval_abs]; exact small_bd hs.1.1
  have b2:(zval nb u').natAbs < 16777216:=by rw [zval_abs]; exact small_bd hs.2.1
  rw [d1.2.2] at s1
  rw [d2.2.2] at s2
  have p1:=abs_mul_lt (a:=zval na u) (b:=(bv (dden v'):Nat)) b1 (by have:=d2.2.1; omega)
  have p2:=abs_mul_lt (a:=zval nb u') (b:=(bv (dden v):Nat)) b2 (by have:=d1.2.1; omega)
  have p3:=abs_mul_lt (a:=zval na u) (b:=zval nb u') b1 b2
  have p4:=abs_mul_lt (a:=(bv (dden v):Nat)) (b:=(bv (dden v'):Nat)) (by have:=d1.2.1; omega) (by have:=d2.2.1; omega)
  have p5:bv (dden v)*bv (dden v') < 281474976710656:=by
   rw [<-Int.natCast_mul,Int.natAbs_natCast] at p4; exact p4
  have pk:=rpack_con (zval na u*zval nb u') (bv (dden v)*bv (dden v')) (Nat.mul_pos dp dp') (by omega) (by omega)
  have w1:std.ib .mul .i64 (zval na u) (bv (dden v'):Nat)=zval na u*(bv (dden v'):Nat):=by rw [s_mul,w64 (by omega) (by omega)]
  have w2:std.ib .mul .i64 (zval nb u') (bv (dden v):Nat)=zval nb u'*(bv (dden v):Nat):=by rw [s_mul,w64 (by omega) (by omega)]
  have w3:std.ib .mul .i64 (zval na u) (zval nb u')=zval na u*zval nb u':=by rw [s_mul,w64 (by omega) (by omega)]
  have w4:std.ib .mul .i64 (bv (dden v):Nat) (bv (dden v'):Nat)=((bv (dden v)*bv (dden v'):Nat):Int):=by rw [s_mul,w64 (by omega) (by omega),Int.natCast_mul]
  obtain ⟨D,hD⟩:∃ D:Int,D=((bv (dden v)*bv (dden v'):Nat):Int):=⟨_,rfl⟩
  obtain ⟨n,hn⟩:∃ n,n=zval na u:=⟨_,rfl⟩
  obtain ⟨m,hm⟩:∃ n,n=zval nb u':=⟨_,rfl⟩
  obtain ⟨d,hd⟩:∃ n:Int,n=(bv (dden v):Nat):=⟨_,rfl⟩
  obtain ⟨e,he⟩:∃ n:Int,n=(bv (dden v'):Nat):=⟨_,rfl⟩
  rw [hres] at pk ⊢
  rw [<-hD] at pk w4
  rw [<-hn,<-hm] at pk w3
  rw [<-hd,<-he] at w4
  obtain ⟨N,hN⟩:∃ N:Int,N=n*m:=⟨_,rfl⟩
  rw [<-hN] at pk w3
  rw [<-hn,<-hd] at s1
  rw [<-hm,<-he] at s2
  clear p1 p2 p3 p4 p5 w1 w2  hD hN hres hn hm hd he b1 b2 d1 d2 dp dp'
  unfold rR at *
  refine Con.of ttOk mixed Tryz.func183 { ord:=[(7,[0,1,3,4,2,5,6,7])] } .nil 0 (by kernel_rfl) (fun P' E hP hE=>?_)
  cbv
  refine CallTo.w hP hE s1 ⟨rfl,trivial⟩ ?_
  cbv
  refine CallTo.w hP hE s2 ⟨rfl,trivial⟩ ?_
  cbv
  refine fork.ya rfl ?_
  cbv
  refine fork.ya rfl ?_
  cbv
  refine CallTo.con hP hE pk (by subst hE; exact ⟨congrArg (Value.int .i64) w3,congrArg (Value.int .i64) w4,trivial⟩) ?_
  cbv
 ·obtain ⟨n1,d1,f1,s1,q1⟩:=rsm_ex na u v
  obtain ⟨n2,d2,f2,s2,q2⟩:=rsm_ex nb u' v'
  obtain ⟨sa,xa,ya,za,wa,la,ma,pa⟩:=rparts_zp na u v h1 h2 hk (by omega)
  obtain ⟨sb,xb,yb,zb,wb,lb,mb,pb⟩:=rparts_zp nb u' v' h3 h4 hl (by omega)
  obtain ⟨t1,y1,z1,l1,m1⟩:=rmul_zp za zb (by omega) (by omega)
  obtain ⟨t4,y4,z4,l4,m4⟩:=rmul_zp wa wb (by omega) (by omega)
  have e4:t4=false:=by
   rw [z4.s]
   have:=Int.mul_nonneg (Int.natCast_nonneg (bv (dden v))) (Int.natCast_nonneg (bv (dden v')))
   exact decide_eq_false (by omega)
  subst e4
  have b4:bv y4=bv (dden v)*bv (dden v'):=by rw [z4.bv,<-Int.natCast_mul]; rfl
  have m5:=rreduce_con t1 y1 y4 (by omega) (by omega) (by rw [b4]; exact Nat.mul_pos dp dp')
  rw [z1.zval,b4,hres] at m5
  rw [hres]
  clear za zb wa wb z1 z4 b4 hres dp dp'
  unfold rR zR at *
  refine Con.of ttOk mixed Tryz.func183 { ord:=[(7,[0,1,3,4,2,5,6,7])] } .nil 0 (by kernel_rfl) (fun P' E hP hE=>?_)
  cbv
  refine CallTo.w hP hE s1 ⟨rfl,trivial⟩ ?_
  cbv
  refine CallTo.w hP hE s2 ⟨rfl,trivial⟩ ?_
  cbv
  refine fork.mk ?_ ?_
  ·intro g1
   cbv
   refine fork.na (by
    cases hf:f2 with
    | false=>rfl
    | true=>exact absurd ⟨q1 g1,q2 hf⟩ hs) ?_
   cbv
   refine CallTo.w hP hE pa ⟨rfl,trivial⟩ ?_
   cbv
   refine CallTo.w hP hE pb ⟨rfl,trivial⟩ ?_
   cbv
   refine CallTo.w hP hE m1 ⟨rfl,rfl,trivial⟩ ?_
   cbv
   refine CallTo.w hP hE m4 ⟨rfl,rfl,trivial⟩ ?_
   cbv
   refine CallTo.w hP hE m5 ⟨rfl,rfl,trivial⟩ ?_
   cbv
  ·intro g1
   cbv
   refine CallTo.w hP hE pa ⟨rfl,trivial⟩ ?_
   cbv
   refine CallTo.w hP hE pb ⟨rfl,trivial⟩ ?_
   cbv
   refine CallTo.w hP hE m1 ⟨rfl,rfl,trivial⟩ ?_
   cbv
   refine CallTo.w hP hE m4 ⟨rfl,rfl,trivial⟩ ?_
   cbv
   refine CallTo.w hP hE m5 ⟨rfl,rfl,trivial⟩ ?_
   cbv
theorem rcmpq_raw (na nb:Bool) (u v u' v':ByteArray) {k l:Nat} (h1:u.size<=k) (h2:v.size<=k) (h3:u'.size<=l) (h4:v'.size<=l) (hk:1<=k) (hl:1<=l) (hkl:k+l<=134217728):Con Tryz.prog 199 [.v (rR na u v),.v (rR nb u' v')] (.v (.int .i64 (cmpI (zval na u*(bv (dden v'):Nat)) (zval nb u'*(bv (dden v):Nat))))):=by
 have dp:0 < bv (dden v):=by rw [dden_bv]; omega
 have dp':0 < bv (dden v'):=by rw [dden_bv]; omega
 obtain ⟨r,hr⟩:∃ r,r=cmpI (zval na u*(bv (dden v'):Nat)) (zval nb u'*(bv (dden v):Nat)):=⟨_,rfl⟩
 by_cases hs:(u.size<=3/\v.size<=3)/\(u'.size<=3/\v'.size<=3)
 ·have s1:=rsm_yes na u v hs.1.1 hs.1.2
  have s2:=rsm_yes nb u' v' hs.2.1 hs.2.2
  have d1:=small_dd hs.1.2
  have d2:=small_dd hs.2.2
  have b1:(zval na u).natAbs < 16777216:=by rw [zval_abs]; exact small_bd hs.1.1
  have b2:(zval nb u').natAbs < 16777216:=by rw [zval_abs]; exact small_bd hs.2.1
  rw [d1.2.2] at s1
  rw [d2.2.2] at s2
  have p1:=abs_mul_lt (a:=zval na u) (b:=(bv (dden v'):Nat)) b1 (by have:=d2.2.1; omega)
  have p2:=abs_mul_lt (a:=zval nb u') (b:=(bv (dden v):Nat)) b2 (by have:=d1.2.1; omega)
  have p3:=abs_mul_lt (a:=zval na u) (b:=zval nb u') b1 b2
  have p4:=abs_mul_lt (a:=(bv (dden v):Nat)) (b:=(bv (dden v'):Nat)) (by have:=d1.2.1; omega) (by have:=d2.2.1; omega)
  have p5:bv (dden v)*bv (dden v') < 281474976710656:=by
   rw [<-Int.natCast_mul,Int.natAbs_natCast] at p4; exact p4
  have w1:std.ib .mul .i64 (zval na u) (bv (dden v'):Nat)=zval na u*(bv (dden v'):Nat):=by rw [s_mul,w64 (by omega) (by omega)]
  have w2:std.ib .mul .i64 (zval nb u') (bv (dden v):Nat)=zval nb u'*(bv (dden v):Nat):=by rw [s_mul,w64 (by omega) (by omega)]
  have w3:std.ib .mul .i64 (zval na u) (zval nb u')=zval na u*zval nb u':=by rw [s_mul,w64 (by omega) (by omega)]
  have w4:std.ib .mul .i64 (bv (dden v):Nat) (bv (dden v'):Nat)=((bv (dden v)*bv (dden v'):Nat):Int):=by rw [s_mul,w64 (by omega) (by omega),Int.natCast_mul]
  obtain ⟨D,hD⟩:∃ D:Int,D=((bv (dden v)*bv (dden v'):Nat):Int):=⟨_,rfl⟩
  obtain ⟨n,hn⟩:∃ n,n=zval na u:=⟨_,rfl⟩
  obtain ⟨m,hm⟩:∃ n,n=zval nb u':=⟨_,rfl⟩
  obtain ⟨d,hd⟩:∃ n:Int,n=(bv (dden v):Nat):=⟨_,rfl⟩
  obtain ⟨e,he⟩:∃ n:Int,n=(bv (dden v'):Nat):=⟨_,rfl⟩
  rw [<-hn,<-he] at w1
  rw [<-hm,<-hd] at w2
  rw [<-hn,<-hm,<-hd,<-he] at hr ⊢
  rw [<-hr]
  rw [<-hn,<-hd] at s1
  rw [<-hm,<-he] at s2
  have r1:n*e < m*d->r = -1:=fun h=>by rw [hr,cmpI,if_pos h]
  have r2:¬ n*e < m*d->n*e > m*d->r=1:=fun h h'=>by rw [hr,cmpI,if_neg h,if_pos h']
  have r3:¬ n*e < m*d->¬ n*e > m*d->r=0:=fun h h'=>by rw [hr,cmpI,if_neg h,if_neg h']
  have k1:std.ic .lss (std.ib .mul .i64 n e) (std.ib .mul .i64 m d)=decide (n*e < m*d):=by rw [w1,w2]; rfl
  have k2:std.ic .gtr (std.ib .mul .i64 n e) (std.ib .mul .i64 m d)=decide (n*e > m*d):=by rw [w1,w2]; rfl
  clear p1 p2 p3 p4 p5 w1 w2 w3 w4 hD hr hn hm hd he b1 b2 d1 d2 dp dp'
  unfold rR at *
  refine Con.of ttOk mixed Tryz.func199 { ord:=[(11,[0,1,3,4,2,5,6,7])] } .nil 0 (by kernel_rfl) (fun P' E hP hE=>?_)
  cbv
  refine CallTo.w hP hE s1 ⟨rfl,trivial⟩ ?_
  cbv
  refine CallTo.w hP hE s2 ⟨rfl,trivial⟩ ?_
  cbv
  refine fork.ya rfl ?_
  cbv
  refine fork.ya rfl ?_
  cbv
  refine fork.mk ?_ ?_
  ·intro g1
   have g1:n*e < m*d:=by subst hE; exact of_decide_eq_true (k1.symm.trans g1)
   cbv
   rw [r1 g1]
  ·intro g1
   have g1:¬ n*e < m*d:=by subst hE; exact of_decide_eq_false (k1.symm.trans g1)
   cbv
   refine fork.mk ?_ ?_
   ·intro g2
    have g2:n*e > m*d:=by subst hE; exact of_decide_eq_true (k2.symm.trans g2)
    cbv
    rw [r2 g1 g2]
   ·intro g2
    have g2:¬ n*e > m*d:=by subst hE; exact of_decide_eq_false (k2.symm.trans g2)
    cbv
    rw [r3 g1 g2]
 ·obtain ⟨n1,d1,f1,s1,q1⟩:=rsm_ex na u v
  obtain ⟨n2,d2,f2,s2,q2⟩:=rsm_ex nb u' v'
  obtain ⟨sa,xa,ya,za,wa,la,ma,pa⟩:=rparts_zp na u v h1 h2 hk (by omega)
  obtain ⟨sb,xb,yb,zb,wb,lb,mb,pb⟩:=rparts_zp nb u' v' h3 h4 hl (by omega)
  obtain ⟨t1,y1,z1,l1,m1⟩:=rmul_zp za wb (by omega) (by omega)
  obtain ⟨t2,y2,z2,l2,m2⟩:=rmul_zp zb wa (by omega) (by omega)
  have m5:=rcmp_con t1 t2 y1 y2 (by omega) (by omega)
  rw [z1.zval,z2.zval,<-hr] at m5
  rw [<-hr]
  clear za zb wa wb z1 z2 hr dp dp'
  unfold rR zR at *
  refine Con.of ttOk mixed Tryz.func199 { ord:=[(11,[0,1,3,4,2,5,6,7])] } .nil 0 (by kernel_rfl) (fun P' E hP hE=>?_)
  cbv
  refine CallTo.w hP hE s1 ⟨rfl,trivial⟩ ?_
  cbv
  refine CallTo.w hP hE s2 ⟨rfl,trivial⟩ ?_
  cbv
  refine fork.mk ?_ ?_
  ·intro g1
   cbv
   refine fork.na (by
    cases hf:f2 with
    | false=>rfl
    | true=>exact absurd ⟨q1 g1,q2 hf⟩ hs) ?_
   cbv
   refine CallTo.w hP hE pa ⟨rfl,trivial⟩ ?_
   cbv
   refine CallTo.w hP hE pb ⟨rfl,trivial⟩ ?_
   cbv
   refine CallTo.w hP hE m1 ⟨rfl,rfl,trivial⟩ ?_
   cbv
   refine CallTo.w hP hE m2 ⟨rfl,rfl,trivial⟩ ?_
   cbv
   refine CallTo.w hP hE m5 ⟨rfl,rfl,trivial⟩ ?_
   cbv
  ·intro g1
   cbv
   refine CallTo.w hP hE pa ⟨rfl,trivial⟩ ?_
   cbv
   refine CallTo.w hP hE pb ⟨rfl,trivial⟩ ?_
   cbv
   refine CallTo.w hP hE m1 ⟨rfl,rfl,trivial⟩ ?_
   cbv
   refine CallTo.w hP hE m2 ⟨rfl,rfl,trivial⟩ ?_
   cbv
   refine CallTo.w hP hE m5 ⟨rfl,rfl,trivial⟩ ?_
   cbv
theorem xadd_q {a b:R} {x y:Rat} {k l:Nat} (ha:Is k a x) (hb:Is l b y) (h:k+l<=134217728):Con Tryz.prog 184 [.v a.v,.v b.v] (.v (cr (x+y)).v):=by
 have e:x+y=mkRat (a.nm*b.dn+b.nm*a.dn) (a.dn*b.dn):=by
  have:=a.dn_pos; have:=b.dn_pos
  rw [<-ha.q,<-hb.q]; exact Rat.mkRat_add_mkRat _ _ (by omega) (by omega)
 rw [e,<-rI_cr _ _ (Nat.mul_pos a.dn_pos b.dn_pos)]
 exact radd_raw a.neg b.neg a.num a.den b.num b.den ha.n ha.d hb.n hb.d ha.b.pos hb.b.pos h
theorem xmul_q {a b:R} {x y:Rat} {k l:Nat} (ha:Is k a x) (hb:Is l b y) (h:k+l<=134217728):Con Tryz.prog 183 [.v a.v,.v b.v] (.v (cr (x*y)).v):=by
 have e:x*y=mkRat (a.nm*b.nm) (a.dn*b.dn):=by
  have:=a.dn_pos; have:=b.dn_pos
  rw [<-ha.q,<-hb.q]; exact Rat.mkRat_mul_mkRat _ _ _ _
 rw [e,<-rI_cr _ _ (Nat.mul_pos a.dn_pos b.dn_pos)]
 exact rmulq_raw a.neg b.neg a.num a.den b.num b.den ha.n ha.d hb.n hb.d ha.b.pos hb.b.pos h
theorem xcmp_q {a b:R} {x y:Rat} {k l:Nat} (ha:Is k a x) (hb:Is l b y) (h:k+l<=134217728):Con Tryz.prog 199 [.v a.v,.v b.v] (.v (.int .i64 (cmpQ x y))):=by
 have e:cmpQ x y=cmpI (a.nm*b.dn) (b.nm*a.dn):=by
  rw [<-ha.q,<-hb.q]; exact (cmpI_q a.dn_pos b.dn_pos).symm
 rw [e]
 exact rcmpq_raw a.neg b.neg a.num a.den b.num b.den ha.n ha.d hb.n hb.d ha.b.pos hb.b.pos h
theorem xadd_c {P':Program} {E:Env} (hP:P'=Tryz.prog) (hE:E=std) {hh:List Blk} {K:AV->List Blk->Prop} {an0:Bool} {au0 ad0:ByteArray} {x:Rat} {k:Nat} {bn0:Bool} {bu0 bd0:ByteArray} {y:Rat} {l:Nat} (ha:Is k ⟨an0,au0,ad0⟩ x) (hb:Is l ⟨bn0,bu0,bd0⟩ y) (h:k+l<=134217728) (hk:∀ r0:R,r0=cr (x+y)->Is (k+l+1) r0 (x+y)->K (.v (r0.v)) hh):CallTo P' hh 184 [.v (.agg #[.bool an0,.string au0,.string ad0]),.v (.agg #[.bool bn0,.string bu0,.string bd0])] K:=by
 refine CallTo.con hP hE (xadd_q ha hb h) ⟨rfl,rfl,trivial⟩ ?_
 have:=hk _ rfl (ha.b.add hb.b).is 
 simp only [outV,outW,List.append_nil]
 exact this
theorem xadd_p {a:R} {x:Rat} {k:Nat} {b:R} {y:Rat} {l:Nat} (ha:Is k a x) (hb:Is l b y) (h:k+l<=134217728):∃ (r0:R),r0=cr (x+y)/\Is (k+l+1) r0 (x+y)/\Con Tryz.prog 184 [.v a.v,.v b.v] (.v (r0.v)):=⟨_,rfl,(ha.b.add hb.b).is,xadd_q ha hb h⟩
theorem xmul_c {P':Program} {E:Env} (hP:P'=Tryz.prog) (hE:E=std) {hh:List Blk} {K:AV->List Blk->Prop} {an0:Bool} {au0 ad0:ByteArray} {x:Rat} {k:Nat} {bn0:Bool} {bu0 bd0:ByteArray} {y:Rat} {l:Nat} (ha:Is k ⟨an0,au0,ad0⟩ x) (hb:Is l ⟨bn0,bu0,bd0⟩ y) (h:k+l<=134217728) (hk:∀ r0:R,r0=cr (x*y)->Is (k+l) r0 (x*y)->K (.v (r0.v)) hh):CallTo P' hh 183 [.v (.agg #[.bool an0,.string au0,.string ad0]),.v (.agg #[.bool bn0,.string bu0,.string bd0])] K:=by
 refine CallTo.con hP hE (xmul_q ha hb h) ⟨rfl,rfl,trivial⟩ ?_
 have:=hk _ rfl (ha.b.mul hb.b).is 
 simp only [outV,outW,List.append_nil]
 exact this
theorem xcmp_c {P':Program} {E:Env} (hP:P'=Tryz.prog) (hE:E=std) {hh:List Blk} {K:AV->List Blk->Prop} {an0:Bool} {au0 ad0:ByteArray} {x:Rat} {k:Nat} {bn0:Bool} {bu0 bd0:ByteArray} {y:Rat} {l:Nat} (ha:Is k ⟨an0,au0,ad0⟩ x) (hb:Is l ⟨bn0,bu0,bd0⟩ y) (h:k+l<=134217728) (hk:∀ r0:Int,r0=cmpQ x y->K (.v (.int .i64 r0)) hh):CallTo P' hh 199 [.v (.agg #[.bool an0,.string au0,.string ad0]),.v (.agg #[.bool bn0,.string bu0,.string bd0])] K:=by
 refine CallTo.con hP hE (xcmp_q ha hb h) ⟨rfl,rfl,trivial⟩ ?_
 have:=hk _ rfl
 simp only [outV,outW,List.append_nil]
 exact this
theorem xcmp_p {a:R} {x:Rat} {k:Nat} {b:R} {y:Rat} {l:Nat} (ha:Is k a x) (hb:Is l b y) (h:k+l<=134217728):∃ (r0:Int),r0=cmpQ x y/\Con Tryz.prog 199 [.v a.v,.v b.v] (.v (.int .i64 r0)):=⟨_,rfl,xcmp_q ha hb h⟩
theorem xsub_q {a b:R} {x y:Rat} {k l:Nat} (ha:Is k a x) (hb:Is l b y) (h:k+l<=134217728):Con Tryz.prog 271 [.v a.v,.v b.v] (.v (cr (x - y)).v):=by
 obtain ⟨n1,u1,d1⟩:=a
 obtain ⟨n2,u2,d2⟩:=b
 have hc:=xadd_q ha hb.not h
 rw [<-Rat.sub_eq_add_neg] at hc
 obtain ⟨r,hr⟩:∃ r,r=cr (x - y):=⟨_,rfl⟩
 rw [<-hr] at hc ⊢
 refine Con.of ttOk mixed Tryz.func271 {} .nil 0 (by kernel_rfl) (fun P' E hP hE=>?_)
 clear hr
 cbv
 refine CallTo.w hP hE hc (by subst hE; exact ⟨rfl,rfl,trivial⟩) ?_
 cbv
theorem xsub_c {P':Program} {E:Env} (hP:P'=Tryz.prog) (hE:E=std) {hh:List Blk} {K:AV->List Blk->Prop} {an0:Bool} {au0 ad0:ByteArray} {x:Rat} {k:Nat} {bn0:Bool} {bu0 bd0:ByteArray} {y:Rat} {l:Nat} (ha:Is k ⟨an0,au0,ad0⟩ x) (hb:Is l ⟨bn0,bu0,bd0⟩ y) (h:k+l<=134217728) (hk:∀ r0:R,r0=cr (x - y)->Is (k+l+1) r0 (x - y)->K (.v (r0.v)) hh):CallTo P' hh 271 [.v (.agg #[.bool an0,.string au0,.string ad0]),.v (.agg #[.bool bn0,.string bu0,.string bd0])] K:=by
 refine CallTo.con hP hE (xsub_q ha hb h) ⟨rfl,rfl,trivial⟩ ?_
 have:=hk _ rfl (ha.b.sub hb.b).is 
 simp only [outV,outW,List.append_nil]
 exact this
theorem xnorm_q {a:R} {x:Rat} {k:Nat} (ha:Is k a x) (h:k<=134217728):Con Tryz.prog 242 [.v a.v] (.v (cr x).v):=by
 have e:(cr x).v=rI a.nm a.dn:=by rw [rI_cr _ _ a.dn_pos]; show _=(cr a.q).v; rw [ha.q]
 have hn:=ha.n
 have hd:=ha.d
 have hk:=ha.b.pos
 have dp:=a.dn_pos
 rw [e]
 obtain ⟨neg,u,v⟩:=a
 have hn:u.size<=k:=hn
 have hd:v.size<=k:=hd
 clear ha e
 obtain ⟨rs,rn,rd,hres⟩:∃ a b c,rI (R.nm ⟨neg,u,v⟩) (R.dn ⟨neg,u,v⟩)=.agg #[.bool a,.string b,.string c]:=by
  unfold rI
  split
  ·exact ⟨_,_,_,rfl⟩
  ·exact ⟨_,_,_,rfl⟩
 rw [hres]
 by_cases hs:u.size<=3/\v.size<=3
 ·have s1:=rsm_yes neg u v hs.1 hs.2
  have d1:=small_dd hs.2
  have b1:(zval neg u).natAbs < 16777216:=by rw [zval_abs]; exact small_bd hs.1
  rw [d1.2.2] at s1
  have pk:=rpack_con (zval neg u) (bv (dden v)) d1.1 (by omega) (by omega)
  have pk:Con Tryz.prog 273 [.v (.int .i64 (zval neg u)),.v (.int .i64 (bv (dden v):Nat))] (.v (rI (R.nm ⟨neg,u,v⟩) (R.dn ⟨neg,u,v⟩))):=pk
  rw [hres] at pk
  obtain ⟨n,hn1⟩:∃ n,n=zval neg u:=⟨_,rfl⟩
  obtain ⟨d,hd1⟩:∃ n:Int,n=(bv (dden v):Nat):=⟨_,rfl⟩
  rw [<-hn1,<-hd1] at s1 pk
  clear hres hn1 hd1 d1 b1 dp
  unfold rR at s1
  refine Con.of ttOk mixed Tryz.func242 {} .nil 0 (by kernel_rfl) (fun P' E hP hE=>?_)
  cbv
  refine CallTo.w hP hE s1 ⟨rfl,trivial⟩ ?_
  cbv
  refine fork.ya rfl ?_
  cbv
  refine CallTo.w hP hE pk ⟨rfl,rfl,trivial⟩ ?_
  cbv
 ·have s1:=rsm_no neg u v (by omega)
  obtain ⟨sa,xa,ya,za,wa,la,ma,pa⟩:=rparts_zp neg u v hn hd hk h
  have b4:bv ya=bv (dden v):=by rw [wa.bv]; rfl
  have m5:=rreduce_con sa xa ya (by omega) (by omega) (by rw [b4]; exact dp)
  rw [za.zval,b4] at m5
  have m5:Con Tryz.prog 243 [.v (zR sa xa),.v (zR false ya)] (.v (rI (R.nm ⟨neg,u,v⟩) (R.dn ⟨neg,u,v⟩))):=m5
  rw [hres] at m5
  clear hres za wa b4 dp
  unfold rR at s1
  unfold zR at m5
  refine Con.of ttOk mixed Tryz.func242 {} .nil 0 (by kernel_rfl) (fun P' E hP hE=>?_)
  cbv
  refine CallTo.w hP hE s1 ⟨rfl,trivial⟩ ?_
  cbv
  refine fork.na rfl ?_
  cbv
  refine CallTo.w hP hE pa ⟨rfl,trivial⟩ ?_
  cbv
  refine CallTo.w hP hE m5 ⟨rfl,rfl,trivial⟩ ?_
  cbv
theorem xsign_q {a:R} {x:Rat} {k:Nat} (ha:Is k a x) (h:k+1<=134217728):Con Tryz.prog 103 [.v a.v] (.v (.int .i64 (cmpQ x 0))):=by
 obtain ⟨an0,au0,ad0⟩:=a
 obtain ⟨r0,e0⟩:∃ r,r=cmpQ x 0:=⟨_,rfl⟩
 rw [<-e0]
 have hz:=Is.zero
 refine Con.of ttOk mixed Tryz.func103 {} .nil 0 (by kernel_rfl) (fun P' E hP hE=>?_)
 cbv
 refine xcmp_c hP hE (by assumption) (by assumption) (by omega) ?_
 intro m em
 cbv
 rw [e0,em]
theorem xsign_c {P':Program} {E:Env} (hP:P'=Tryz.prog) (hE:E=std) {hh:List Blk} {K:AV->List Blk->Prop} {an0:Bool} {au0 ad0:ByteArray} {x:Rat} {k:Nat} (ha:Is k ⟨an0,au0,ad0⟩ x) (h:k+1<=134217728) (hk:∀ r0:Int,r0=cmpQ x 0->K (.v (.int .i64 r0)) hh):CallTo P' hh 103 [.v (.agg #[.bool an0,.string au0,.string ad0])] K:=by
 refine CallTo.con hP hE (xsign_q ha h) ⟨rfl,trivial⟩ ?_
 have:=hk _ rfl
 simp only [outV,outW,List.append_nil]
 exact this
theorem xsign_p {a:R} {x:Rat} {k:Nat} (ha:Is k a x) (h:k+1<=134217728):∃ (r0:Int),r0=cmpQ x 0/\Con Tryz.prog 103 [.v a.v] (.v (.int .i64 r0)):=⟨_,rfl,xsign_q ha h⟩
theorem ysub_q {a:Pt} {A:Pq} {k:Nat} {b:Pt} {B:Pq} {l:Nat} (ha:IsP k a A) (hb:IsP l b B) (h:k+l<=134217728):Con Tryz.prog 261 [.v a.v,.v b.v] (.v ((crP (A.sub B)).v)):=by
 obtain ⟨⟨an0,au0,ad0⟩,⟨an1,au1,ad1⟩⟩:=a
 have hax:Is k ⟨an0,au0,ad0⟩ A.x:=ha.x
 have hay:Is k ⟨an1,au1,ad1⟩ A.y:=ha.y
 obtain ⟨⟨bn0,bu0,bd0⟩,⟨bn1,bu1,bd1⟩⟩:=b
 have hbx:Is l ⟨bn0,bu0,bd0⟩ B.x:=hb.x
 have hby:Is l ⟨bn1,bu1,bd1⟩ B.y:=hb.y
 obtain ⟨r0,e0⟩:∃ r,r=crP (A.sub B):=⟨_,rfl⟩
 rw [<-e0]
 refine Con.of ttOk mixed Tryz.func261 { ord:=[(1,[0,1,2,3,5,6,7,8,4,9,10,11])] } .nil 0 (by kernel_rfl) (fun P' E hP hE=>?_)
 cbv
 refine xsub_c hP hE (by assumption) (by assumption) (by omega) ?_
 intro c1 ec1 hc1
 cbv
 refine xsub_c hP hE (by assumption) (by assumption) (by omega) ?_
 intro c2 ec2 hc2
 cbv
 rw [e0,ec1,ec2]; rfl
theorem ydot_q {a:Pt} {A:Pq} {k:Nat} {b:Pt} {B:Pq} {l:Nat} (ha:IsP k a A) (hb:IsP l b B) (h:2*(k+l)<=134217728):Con Tryz.prog 270 [.v a.v,.v b.v] (.v ((cr (A.dot B)).v)):=by
 obtain ⟨⟨an0,au0,ad0⟩,⟨an1,au1,ad1⟩⟩:=a
 have hax:Is k ⟨an0,au0,ad0⟩ A.x:=ha.x
 have hay:Is k ⟨an1,au1,ad1⟩ A.y:=ha.y
 obtain ⟨⟨bn0,bu0,bd0⟩,⟨bn1,bu1,bd1⟩⟩:=b
 have hbx:Is l ⟨bn0,bu0,bd0⟩ B.x:=hb.x
 have hby:Is l ⟨bn1,bu1,bd1⟩ B.y:=hb.y
 obtain ⟨r0,e0⟩:∃ r,r=cr (A.dot B):=⟨_,rfl⟩
 rw [<-e0]
 refine Con.of ttOk mixed Tryz.func270 { ord:=[(1,[0,1,2,3,5,6,7,8,4,9,10,11])] } .nil 0 (by kernel_rfl) (fun P' E hP hE=>?_)
 cbv
 refine xmul_c hP hE (by assumption) (by assumption) (by omega) ?_
 intro c1 ec1 hc1
 cbv
 refine xmul_c hP hE (by assumption) (by assumption) (by omega) ?_
 intro c2 ec2 hc2
 cbv
 refine xadd_c hP hE (by assumption) (by assumption) (by omega) ?_
 intro c3 ec3 hc3
 cbv
 rw [e0,ec3]; rfl
theorem ycross_q {a:Pt} {A:Pq} {k:Nat} {b:Pt} {B:Pq} {l:Nat} (ha:IsP k a A) (hb:IsP l b B) (h:2*(k+l)<=134217728):Con Tryz.prog 180 [.v a.v,.v b.v] (.v ((cr (A.cross B)).v)):=by
 obtain ⟨⟨an0,au0,ad0⟩,⟨an1,au1,ad1⟩⟩:=a
 have hax:Is k ⟨an0,au0,ad0⟩ A.x:=ha.x
 have hay:Is k ⟨an1,au1,ad1⟩ A.y:=ha.y
 obtain ⟨⟨bn0,bu0,bd0⟩,⟨bn1,bu1,bd1⟩⟩:=b
 have hbx:Is l ⟨bn0,bu0,bd0⟩ B.x:=hb.x
 have hby:Is l ⟨bn1,bu1,bd1⟩ B.y:=hb.y
 obtain ⟨r0,e0⟩:∃ r,r=cr (A.cross B):=⟨_,rfl⟩
 rw [<-e0]
 refine Con.of ttOk mixed Tryz.func180 { ord:=[(1,[0,1,2,3,5,6,7,8,4,9,10,11])] } .nil 0 (by kernel_rfl) (fun P' E hP hE=>?_)
 cbv
 refine xmul_c hP hE (by assumption) (by assumption) (by omega) ?_
 intro c1 ec1 hc1
 cbv
 refine xmul_c hP hE (by assumption) (by assumption) (by omega) ?_
 intro c2 ec2 hc2
 cbv
 refine xsub_c hP hE (by assumption) (by assumption) (by omega) ?_
 intro c3 ec3 hc3
 cbv
 rw [e0,ec3]; rfl
theorem ysub_c {P':Program} {E:Env} (hP:P'=Tryz.prog) (hE:E=std) {hh:List Blk} {K:AV->List Blk->Prop} {an0 an1:Bool} {au0 ad0 au1 ad1:ByteArray} {A:Pq} {k:Nat} {bn0 bn1:Bool} {bu0 bd0 bu1 bd1:ByteArray} {B:Pq} {l:Nat} (ha:IsP k ⟨⟨an0,au0,ad0⟩,⟨an1,au1,ad1⟩⟩ A) (hb:IsP l ⟨⟨bn0,bu0,bd0⟩,⟨bn1,bu1,bd1⟩⟩ B) (h:k+l<=134217728) (hk:∀ r0:Pt,r0=crP (A.sub B)->IsP (k+l+1) r0 (A.sub B)->Is (k+l+1) r0.x (A.sub B).x->Is (k+l+1) r0.y (A.sub B).y->K (.v (r0.v)) hh):CallTo P' hh 261 [.v (.agg #[.bool an0,.string au0,.string ad0,.bool an1,.string au1,.string ad1]),.v (.agg #[.bool bn0,.string bu0,.string bd0,.bool bn1,.string bu1,.string bd1])] K:=by
 refine CallTo.con hP hE (ysub_q ha hb h) ⟨rfl,rfl,trivial⟩ ?_
 have:=hk _ rfl (ha.b.sub hb.b).is (ha.b.sub hb.b).is.x (ha.b.sub hb.b).is.y
 simp only [outV,outW,List.append_nil]
 exact this
theorem ysub_p {a:Pt} {A:Pq} {k:Nat} {b:Pt} {B:Pq} {l:Nat} (ha:IsP k a A) (hb:IsP l b B) (h:k+l<=134217728):∃ (r0:Pt),r0=crP (A.sub B)/\IsP (k+l+1) r0 (A.sub B)/\Con Tryz.prog 261 [.v a.v,.v b.v] (.v (r0.v)):=⟨_,rfl,(ha.b.sub hb.b).is,ysub_q ha hb h⟩
theorem ydot_p {a:Pt} {A:Pq} {k:Nat} {b:Pt} {B:Pq} {l:Nat} (ha:IsP k a A) (hb:IsP l b B) (h:2*(k+l)<=134217728):∃ (r0:R),r0=cr (A.dot B)/\Is (2*(k+l)+1) r0 (A.dot B)/\Con Tryz.prog 270 [.v a.v,.v b.v] (.v (r0.v)):=⟨_,rfl,(ha.b.dot hb.b).is,ydot_q ha hb h⟩
theorem ycross_c {P':Program} {E:Env} (hP:P'=Tryz.prog) (hE:E=std) {hh:List Blk} {K:AV->List Blk->Prop} {an0 an1:Bool} {au0 ad0 au1 ad1:ByteArray} {A:Pq} {k:Nat} {bn0 bn1:Bool} {bu0 bd0 bu1 bd1:ByteArray} {B:Pq} {l:Nat} (ha:IsP k ⟨⟨an0,au0,ad0⟩,⟨an1,au1,ad1⟩⟩ A) (hb:IsP l ⟨⟨bn0,bu0,bd0⟩,⟨bn1,bu1,bd1⟩⟩ B) (h:2*(k+l)<=134217728) (hk:∀ r0:R,r0=cr (A.cross B)->Is (2*(k+l)+1) r0 (A.cross B)->K (.v (r0.v)) hh):CallTo P' hh 180 [.v (.agg #[.bool an0,.string au0,.string ad0,.bool an1,.string au1,.string ad1]),.v (.agg #[.bool bn0,.string bu0,.string bd0,.bool bn1,.string bu1,.string bd1])] K:=by
 refine CallTo.con hP hE (ycross_q ha hb h) ⟨rfl,rfl,trivial⟩ ?_
 have:=hk _ rfl (ha.b.cross hb.b).is 
 simp only [outV,outW,List.append_nil]
 exact this
theorem ycross_p {a:Pt} {A:Pq} {k:Nat} {b:Pt} {B:Pq} {l:Nat} (ha:IsP k a A) (hb:IsP l b B) (h:2*(k+l)<=134217728):∃ (r0:R),r0=cr (A.cross B)/\Is (2*(k+l)+1) r0 (A.cross B)/\Con Tryz.prog 180 [.v a.v,.v b.v] (.v (r0.v)):=⟨_,rfl,(ha.b.cross hb.b).is,ycross_q ha hb h⟩
theorem ycmp_q {a:Pt} {A:Pq} {k:Nat} {b:Pt} {B:Pq} {l:Nat} (ha:IsP k a A) (hb:IsP l b B) (h:k+l<=134217728):Con Tryz.prog 200 [.v a.v,.v b.v] (.v (.int .i64 (cmpP A B))):=by
 obtain ⟨⟨an0,au0,ad0⟩,⟨an1,au1,ad1⟩⟩:=a
 have hax:Is k ⟨an0,au0,ad0⟩ A.x:=ha.x
 have hay:Is k ⟨an1,au1,ad1⟩ A.y:=ha.y
 obtain ⟨⟨bn0,bu0,bd0⟩,⟨bn1,bu1,bd1⟩⟩:=b
 have hbx:Is l ⟨bn0,bu0,bd0⟩ B.x:=hb.x
 have hby:Is l ⟨bn1,bu1,bd1⟩ B.y:=hb.y
 obtain ⟨r0,e0⟩:∃ r,r=cmpP A B:=⟨_,rfl⟩
 rw [<-e0]
 refine Con.of ttOk mixed Tryz.func200 {} .nil 0 (by kernel_rfl) (fun P' E hP hE=>?_)
 cbv
 refine xcmp_c hP hE (by assumption) (by assumption) (by omega) ?_
 intro m1 em1
 cbv
 refine fork.mk ?_ ?_
 ·intro k1
  cbv
  subst hE
  have k1:std.ic .neq m1 0=true:=k1
  simp at k1
  rw [e0,em1,cmpP,if_pos (by rw [<-em1]; exact k1)]
 ·intro k1
  cbv
  refine xcmp_c hP hE (by assumption) (by assumption) (by omega) ?_
  intro m2 em2
  cbv
  subst hE
  have k1:std.ic .neq m1 0=false:=k1
  simp at k1
  rw [e0,em2,cmpP,if_neg (by rw [<-em1,k1]; simp)]
theorem ycmp_p {a:Pt} {A:Pq} {k:Nat} {b:Pt} {B:Pq} {l:Nat} (ha:IsP k a A) (hb:IsP l b B) (h:k+l<=134217728):∃ (r0:Int),r0=cmpP A B/\Con Tryz.prog 200 [.v a.v,.v b.v] (.v (.int .i64 r0)):=⟨_,rfl,ycmp_q ha hb h⟩
theorem yor_q {a:Pt} {A:Pq} {k:Nat} {b:Pt} {B:Pq} {c:Pt} {C:Pq} (ha:IsP k a A) (hb:IsP k b B) (hc:IsP k c C) (h:16*k+16<=134217728):Con Tryz.prog 197 [.v a.v,.v b.v,.v c.v] (.v (.int .i64 (orQ A B C))):=by
 obtain ⟨⟨an0,au0,ad0⟩,⟨an1,au1,ad1⟩⟩:=a
 have hax:Is k ⟨an0,au0,ad0⟩ A.x:=ha.x
 have hay:Is k ⟨an1,au1,ad1⟩ A.y:=ha.y
 obtain ⟨⟨bn0,bu0,bd0⟩,⟨bn1,bu1,bd1⟩⟩:=b
 have hbx:Is k ⟨bn0,bu0,bd0⟩ B.x:=hb.x
 have hby:Is k ⟨bn1,bu1,bd1⟩ B.y:=hb.y
 obtain ⟨⟨cn0,cu0,cd0⟩,⟨cn1,cu1,cd1⟩⟩:=c
 have hcx:Is k ⟨cn0,cu0,cd0⟩ C.x:=hc.x
 have hcy:Is k ⟨cn1,cu1,cd1⟩ C.y:=hc.y
 obtain ⟨r0,e0⟩:∃ r,r=orQ A B C:=⟨_,rfl⟩
 rw [<-e0]
 refine Con.of ttOk mixed Tryz.func197 { ord:=[(1,[0,1,3,4,2,5,6,7,8])] } .nil 0 (by kernel_rfl) (fun P' E hP hE=>?_)
 cbv
 refine ysub_c hP hE (by assumption) (by assumption) (by omega) ?_
 intro c1 ec1 hc1 hc1x hc1y
 cbv
 refine ysub_c hP hE (by assumption) (by assumption) (by omega) ?_
 intro c2 ec2 hc2 hc2x hc2y
 cbv
 refine ycross_c hP hE (by assumption) (by assumption) (by omega) ?_
 intro c3 ec3 hc3
 cbv
 refine xsign_c hP hE (by assumption) (by omega) ?_
 intro m4 em4
 cbv
 rw [e0,em4]; rfl
theorem yor_p {a:Pt} {A:Pq} {k:Nat} {b:Pt} {B:Pq} {c:Pt} {C:Pq} (ha:IsP k a A) (hb:IsP k b B) (hc:IsP k c C) (h:16*k+16<=134217728):∃ (r0:Int),r0=orQ A B C/\Con Tryz.prog 197 [.v a.v,.v b.v,.v c.v] (.v (.int .i64 r0)):=⟨_,rfl,yor_q ha hb hc h⟩
theorem vof_q (m n:Int) (h:(-9223372036854775808<=m/\m < 9223372036854775808)/\(-9223372036854775808<=n/\n < 9223372036854775808)):Con Tryz.prog 90 [.v (.int .i64 m),.v (.int .i64 n)] (.v (crP ⟨(m:Rat),(n:Rat)⟩).v):=by
 have h1:=h.1
 have h2:=h.2
 obtain ⟨r0,e0⟩:∃ r,r=crP ⟨(m:Rat),(n:Rat)⟩:=⟨_,rfl⟩
 rw [<-e0]
 refine Con.of ttOk mixed Tryz.func90 {} .nil 0 (by kernel_rfl) (fun P' E hP hE=>?_)
 cbv
 refine ofc_c hP hE rfl (by omega) ?_
 intro c1 ec1 hc1
 cbv
 refine ofc_c hP hE rfl (by omega) ?_
 intro c2 ec2 hc2
 cbv
 rw [e0,ec1,ec2]; rfl
abbrev zQ:Pt:=⟨⟨false,⟨#[]⟩,⟨#[]⟩⟩,⟨false,⟨#[]⟩,⟨#[]⟩⟩⟩
theorem edges_ok:InlOk Tryz.prog [(111,Tryz.f111,{}),(201,Tryz.f201,{ ord:=[(3,.op 0 (.op 1 (.op 2 (.op 3 (.op 4 (.op 5 (.op 6 (.op 7 (.op 8 (.op 9 (.wr 10 (.op 11 .nil))))))))))))] })]:=
 InlOk.cons Tryz.func111 (by kernel_rfl) (InlOk.cons Tryz.func201 (by kernel_rfl) .nil)
theorem map_at {ps:List Pt} {i:Nat} (h:i < ps.length):at' (ps.map Pt.q) i=(ps.getD i zQ).q:=by
 unfold at'
 rw [List.getD_eq_getElem?_getD,List.getD_eq_getElem?_getD,List.getElem?_map,List.getElem?_eq_getElem h]; rfl
theorem getD_mem {ps:List Pt} {i:Nat} (h:i < ps.length):ps.getD i zQ ∈ ps:=by
 rw [List.getD_eq_getElem?_getD,List.getElem?_eq_getElem h]; exact List.getElem_mem h
/-- What a round over the edges needs. -/
structure EdgF (ps:List Pt) (n i j r:Int) (p q:Pt):Prop where
 in1:0<=i/\i < n
 add:std.ib .add .i64 i 1=j
 nz:n ≠ 0
 rem:std.ib .rem .i64 j n=r
 in2:0<=r/\r < n
 g1:std.get Pt ps i zQ=p
 g2:std.get Pt ps r zQ=q
 m1:p ∈ ps
 m2:q ∈ ps
 e:edgeQ (ps.map Pt.q) i.toNat=⟨p.q,q.q⟩
 st:(edgesQ (ps.map Pt.q)).take j.toNat=(edgesQ (ps.map Pt.q)).take i.toNat++[⟨p.q,q.q⟩]
 j0:0<=j
 j1:j<=n
 mu:(n - j).toNat < (n - i).toNat
theorem edgF_ex {ps:List Pt} {n i:Int} (hn:n=(ps.length:Int)) (hl:ps.length<=4096) (h0:0<=i) (h1:i < n):∃ j r p q,EdgF ps n i j r p q:=by
 have hpos:i.toNat < ps.length:=by omega
 have hr:(i.toNat+1) % ps.length < ps.length:=Nat.mod_lt _ (by omega)
 have er:(i+1).tmod n=(((i.toNat+1) % ps.length:Nat):Int):=by
  rw [Int.tmod_eq_emod_of_nonneg (by omega),hn,Int.natCast_emod]; congr 1; omega
 have e:edgeQ (ps.map Pt.q) i.toNat=⟨(ps.getD i.toNat zQ).q,(ps.getD ((i.toNat+1) % ps.length) zQ).q⟩:=by
  unfold edgeQ
  rw [List.length_map,map_at hpos,map_at hr]
 refine ⟨i+1,(((i.toNat+1) % ps.length:Nat):Int),ps.getD i.toNat zQ,ps.getD ((i.toNat+1) % ps.length) zQ,⟨⟨h0,h1⟩,by rw [s_add,w64 (by omega) (by omega)],by omega,by rw [s_rem,er],⟨by omega,by omega⟩,rfl,rfl,getD_mem hpos,getD_mem hr,e,?_,by omega,by omega,by omega⟩⟩
 have e2:(i+1).toNat=i.toNat+1:=by omega
 rw [e2,edges_take (by rw [List.length_map]; exact hpos),e]
/-- What the loop of Area holds. -/
structure SumI (ps:List Pt) (m:Nat) (n i:Int) (s:R):Prop where
 h0:0<=i
 h1:i<=n
 is:Is m s (sumE crE ((edgesQ (ps.map Pt.q)).take i.toNat))
/-- A round of Area. -/
structure SumF (ps:List Pt) (m:Nat) (n i:Int) (s:R) (j r:Int) (p q:Pt) (c s':R):Prop where
 e:EdgF ps n i j r p q
 cr:Con Tryz.prog 112 [.v p.v,.v q.v] (.v c.v)
 ad:Con Tryz.prog 45 [.v s.v,.v c.v] (.v s'.v)
 st:SumI ps m n j s'
theorem pts_bd {k:Nat} {ps:List Pt} (hp:∀ p ∈ ps,IsP k p p.q):∀ q ∈ ps.map Pt.q,BdP k q:=by
 intro q hq
 obtain ⟨p,h1,h2⟩:=List.mem_map.1 hq
 rw [<-h2]; exact (hp p h1).b
theorem sum_bd {k:Nat} {l:List Pq} (hl:l.length<=4096) (hp:∀ q ∈ l,BdP k q) (hk1:1<=k) (i:Nat):Bd (20480*k+20480) (sumE crE ((edgesQ l).take i)):=by
 have h:=sumE_bd (f:=crE) (m:=4*k+1) ((edgesQ l).take i) (fun e he=>crE_bd (edges_bd hp e (List.mem_of_mem_take he)))
 refine h.mono ?_
 have h2:((edgesQ l).take i).length<=4096:=by rw [List.length_take,edges_len]; omega
 have h3:((edgesQ l).take i).length*(4*k+1+1)<=4096*(4*k+2):=Nat.mul_le_mul_right _ h2
 omega
theorem sumF_ex {k:Nat} {ps:List Pt} (hp:∀ p ∈ ps,IsP k p p.q) (hl:ps.length<=4096) (hk:40960*k+40960<=134217728) {n i:Int} {s:R} (hn:n=(ps.length:Int)) (h:SumI ps (20480*k+20480) n i s) (hi:i < n):∃ j r p q c s',SumF ps (20480*k+20480) n i s j r p q c s':=by
 obtain ⟨j,r,p,q,he⟩:=edgF_ex hn hl h.h0 hi
 have hk1:1<=k:=(hp p he.m1).b.x.pos
 obtain ⟨c,ec,hc,kc⟩:=vcross_p (hp p he.m1) (hp q he.m2) (by omega)
 obtain ⟨s',es,hs,ka⟩:=add_p h.is hc (by omega)
 have e2:sumE crE ((edgesQ (ps.map Pt.q)).take i.toNat)+p.q.cross q.q=sumE crE ((edgesQ (ps.map Pt.q)).take j.toNat):=by rw [he.st,sumE_snoc]; rfl
 refine ⟨j,r,p,q,c,s',he,kc,ka,he.j0,he.j1,?_⟩
 rw [es,e2]
 exact (sum_bd (by rw [List.length_map]; exact hl) (pts_bd hp) hk1 _).is
theorem area_q {k:Nat} {ps:List Pt} (hp:∀ p ∈ ps,IsP k p p.q) (hl:ps.length<=4096) (hk:40960*k+40960<=134217728) (hk1:1<=k):Con Tryz.prog 32 [.ro cP ps] (.v (cr (areaQ (ps.map Pt.q))).v):=by
 obtain ⟨r0,e0⟩:∃ r,r=cr (areaQ (ps.map Pt.q)):=⟨_,rfl⟩
 rw [<-e0]
 obtain ⟨n,hn⟩:∃ n:Int,n=ps.length:=⟨_,rfl⟩
 obtain ⟨i0,hi0⟩:∃ i:Int,i=0:=⟨_,rfl⟩
 obtain ⟨s0,hs0⟩:∃ s:R,s=⟨false,⟨#[]⟩,⟨#[]⟩⟩:=⟨_,rfl⟩
 have hp0:SumI ps (20480*k+20480) n i0 s0:=⟨by omega,by omega,by
  rw [hs0,hi0]
  show Is _ _ (0:Rat)
  have hz:=(Bd.zero (k:=20480*k+20480) (by omega)).is
  have e:cr 0=⟨false,⟨#[]⟩,⟨#[]⟩⟩:=cr_zero
  rw [e] at hz; exact hz⟩
 have hrnd:∀ i s,SumI ps (20480*k+20480) n i s->i < n->∃ j r p q c s',SumF ps (20480*k+20480) n i s j r p q c s':=fun i s h h'=>sumF_ex hp hl hk hn h h'
 obtain ⟨t2,et2⟩:∃ r,r=cr ((2:Int):Rat):=⟨_,rfl⟩
 have k2:=ofQ_q 2 (by decide) (by decide)
 rw [<-et2] at k2
 have h2:Is 8 t2 ((2:Int):Rat):=by rw [et2]; exact (bd_int (by decide)).is
 have hquo:∀ i s,SumI ps (20480*k+20480) n i s->¬ i < n->∃ e:Int,Con Tryz.prog 43 [.v s.v,.v t2.v] (.v (.tuple #[r0.v,.int .i64 e])):=by
  intro i s h h'
  obtain ⟨r,e,er,_,_,kq⟩:=quo_p h.is h2 (by omega)
  have h3:=h.h1
  rw [edges_all (by rw [List.length_map]; omega)] at er
  have e3:r=r0:=by rw [er,e0]; rfl
  exact ⟨e,e3 ▸ kq⟩
 clear e0
 refine Con.of ttOk mixed Tryz.func32 { ord:=(5,[0,1,2,3,4,5])::[(6,(.op 0 (.br 1 (.br 2 (.op 3 (.op 4 (.op 5 (.op 6 (.op 7 (.op 8 .nil)))))) (.br 6 (.op 2 (.op 3 (.op 4 (.op 5 (.op 7 (.op 8 .nil)))))) .stop)) (.br 6 (.op 1 (.op 2 (.op 3 (.op 4 (.op 5 (.op 7 (.op 8 .nil))))))) .stop))))] } edges_ok 4 (by kernel_rfl) (fun P' E hP hE=>?_)
 cbv
 refine LoopTo.by (ι:=Int × R) (fun x=>[(6,.v (.int .i64 n)),(7,.v (.int .i64 x.1))]) (fun x=>[(2,.cells x.2.av 31)]) (fun x=>SumI ps (20480*k+20480) n x.1 x.2) (fun x=>(n - x.1).toNat) (i0,s0) [] hp0 ?_ ?_
 ·cbv
  subst hE
  and_intros
  all_goals first
   | exact True.intro
   | rfl
   | exact vi hn.symm
   | exact vj hi0.symm
   | exact congrArg (fun s:R=>AV.v (Value.bool s.neg)) hs0.symm
   | exact congrArg (fun s:R=>AV.v (Value.string s.num)) hs0.symm
   | exact congrArg (fun s:R=>AV.v (Value.string s.den)) hs0.symm
   | (intro h; cases h; done)
 ·rintro ⟨i,s⟩ hi
  have hi:SumI ps (20480*k+20480) n i s:=hi
  clear hp0
  cbv
  refine fork.mk ?_ ?_
  ·intro g
   have hlt:i < n:=by subst hE; simpa [std] using g
   refine Exists.elim (hrnd i s hi hlt) ?_
   intro j h
   refine Exists.elim h ?_
   intro r h
   refine Exists.elim h ?_
   intro p h
   refine Exists.elim h ?_
   intro q h
   refine Exists.elim h ?_
   intro c h
   refine Exists.elim h ?_
   intro s' hf
   have hn:n=(ps.length:Int):=hn
   have in1:0<=i/\i < (ps.length:Int):=by rw [<-hn]; exact hf.e.in1
   have hadd:=hf.e.add
   have hnz:std.nz .rem (std.len Pt ps):=by show (ps.length:Int) ≠ 0; have:=hf.e.nz; rw [<-hn]; exact this
   have hrem:std.ib .rem .i64 (std.ib .add .i64 i 1) (std.len Pt ps)=r:=by rw [hadd,s_len,<-hn]; exact hf.e.rem
   have in2:0<=std.ib .rem .i64 (std.ib .add .i64 i 1) (std.len Pt ps)/\std.ib .rem .i64 (std.ib .add .i64 i 1) (std.len Pt ps) < (ps.length:Int):=by rw [hrem,<-hn]; exact hf.e.in2
   have hg1:=hf.e.g1
   have hg2:std.get Pt ps (std.ib .rem .i64 (std.ib .add .i64 i 1) (std.len Pt ps)) zQ=q:=by rw [hrem]; exact hf.e.g2
   have kcr:=hf.cr
   have kad:=hf.ad
   have hst:=hf.st
   have hmu:=hf.e.mu
   clear hf h hi hlt g
   cbv
   refine Need.mk (by subst hE; exact in1) ?_
   cbv
   refine Need.mk (by subst hE; exact hnz) ?_
   cbv
   refine Need.mk (by subst hE; exact in2) ?_
   cbv
   refine CallTo.w hP hE kcr ⟨(by subst hE; exact congrArg (fun p:Pt=>p.v) hg1),(by subst hE; exact congrArg (fun p:Pt=>p.v) hg2),trivial⟩ ?_
   cbv
   refine CallTo.w hP hE kad ⟨rfl,rfl,trivial⟩ ?_
   cbv
   refine ⟨(j,s'),[],hst,hmu,?_⟩
   cbv
   subst hE
   and_intros
   all_goals first
    | exact True.intro
    | rfl
    | exact vi hadd
    | exact vj hadd
    | (simp; done)
    | (intro h; cases h; done)
  ·intro g
   have hge:¬ i < n:=by subst hE; simpa [std] using g
   have hx:=hquo i s hi hge
   clear hi hge hquo hrnd g
   cbv
   refine Exists.elim hx ?_
   intro e kq
   refine DrawTo.byU [(6,.p 5 0),(7,.v (.int .i64 e))] [.cells r0.av 31] ?_ ?_
   ·cbv
    repeat' first
     | exact True.intro
     | (refine Both.mk ?_ ?_<;>cbv)
     | (refine CallTo.w hP hE k2 ⟨rfl,trivial⟩ ?_; cbv)
     | (refine CallTo.w hP hE kq ⟨rfl,rfl,trivial⟩ ?_; cbv)
     | (and_intros<;>first | exact True.intro | rfl | (intro h; cases h; done) | (intro h; rfl))
   ·cbv
    skip
end Go.Proofs.YtkipmmiiackdaaaGreat.Sx
