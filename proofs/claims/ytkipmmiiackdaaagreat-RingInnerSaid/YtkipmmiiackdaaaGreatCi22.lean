/- Part 22 of what the statement needs: an executor of Go texts, arithmetic, and contracts of the functions that are called. -/
import Derived.Test.YtkipmmiiackdaaaGreatCi21
set_option linter.unusedSimpArgs false
set_option linter.unusedVariables false
set_option maxHeartbeats 8000000
set_option maxRecDepth 100000
namespace Go.Proofs.YtkipmmiiackdaaaGreat.Sx
open Env (std)
theorem orient_q {a:Pt} {A:Pq} {k:Nat} {b:Pt} {B:Pq} {c:Pt} {C:Pq} (ha:IsP k a A) (hb:IsP k b B) (hc:IsP k c C) (h:16*k+16<=134217728):Con Tryz.prog 28 [.v a.v,.v b.v,.v c.v] (.v (.int .i64 (orQ A B C))):=by
 obtain ⟨⟨an0,au0,ad0⟩,⟨an1,au1,ad1⟩⟩:=a
 have hax:Is k ⟨an0,au0,ad0⟩ A.x:=ha.x
 have hay:Is k ⟨an1,au1,ad1⟩ A.y:=ha.y
 obtain ⟨⟨bn0,bu0,bd0⟩,⟨bn1,bu1,bd1⟩⟩:=b
 have hbx:Is k ⟨bn0,bu0,bd0⟩ B.x:=hb.x
 have hby:Is k ⟨bn1,bu1,bd1⟩ B.y:=hb.y
 obtain ⟨⟨cn0,cu0,cd0⟩,⟨cn1,cu1,cd1⟩⟩:=c
 have hcx:Is k ⟨cn0,cu0,cd0⟩ C.x:=hc.x
 have hcy:Is k ⟨cn1,cu1,cd1⟩ C.y:=hc.y
 obtain ⟨r0,e0⟩:∃ r,r=orQ A B C:=⟨_,rfl⟩
 rw [<-e0]
 refine Con.of ttOk mixed Tryz.func28 { ord:=[(1,[0,1,3,4,2,5,6,7,8])] } .nil 0 (by kernel_rfl) (fun P' E hP hE=>?_)
 cbv
 refine vsub_c hP hE (by assumption) (by assumption) (by omega) ?_
 intro c1 ec1 hc1 hc1x hc1y
 cbv
 refine vsub_c hP hE (by assumption) (by assumption) (by omega) ?_
 intro c2 ec2 hc2 hc2x hc2y
 cbv
 refine vcross_c hP hE (by assumption) (by assumption) (by omega) ?_
 intro c3 ec3 hc3
 cbv
 refine sign_c hP hE (by assumption) (by omega) ?_
 intro m4 em4
 cbv
 rw [e0,em4]; rfl
theorem orient_c {P':Program} {E:Env} (hP:P'=Tryz.prog) (hE:E=std) {hh:List Blk} {K:AV->List Blk->Prop} {an0 an1:Bool} {au0 ad0 au1 ad1:ByteArray} {A:Pq} {k:Nat} {bn0 bn1:Bool} {bu0 bd0 bu1 bd1:ByteArray} {B:Pq} {cn0 cn1:Bool} {cu0 cd0 cu1 cd1:ByteArray} {C:Pq} (ha:IsP k ⟨⟨an0,au0,ad0⟩,⟨an1,au1,ad1⟩⟩ A) (hb:IsP k ⟨⟨bn0,bu0,bd0⟩,⟨bn1,bu1,bd1⟩⟩ B) (hc:IsP k ⟨⟨cn0,cu0,cd0⟩,⟨cn1,cu1,cd1⟩⟩ C) (h:16*k+16<=134217728) (hk:∀ r0:Int,r0=orQ A B C->K (.v (.int .i64 r0)) hh):CallTo P' hh 28 [.v (.agg #[.bool an0,.string au0,.string ad0,.bool an1,.string au1,.string ad1]),.v (.agg #[.bool bn0,.string bu0,.string bd0,.bool bn1,.string bu1,.string bd1]),.v (.agg #[.bool cn0,.string cu0,.string cd0,.bool cn1,.string cu1,.string cd1])] K:=by
 refine CallTo.con hP hE (orient_q ha hb hc h) ⟨rfl,rfl,rfl,trivial⟩ ?_
 have:=hk _ rfl
 simp only [outV,outW,List.append_nil]
 exact this
theorem orient_p {a:Pt} {A:Pq} {k:Nat} {b:Pt} {B:Pq} {c:Pt} {C:Pq} (ha:IsP k a A) (hb:IsP k b B) (hc:IsP k c C) (h:16*k+16<=134217728):∃ (r0:Int),r0=orQ A B C/\Con Tryz.prog 28 [.v a.v,.v b.v,.v c.v] (.v (.int .i64 r0)):=⟨_,rfl,orient_q ha hb hc h⟩
theorem wrap_pp {a b:Int} {p q r s:Pq} (ha:a=cmpP p q) (hb:b=cmpP r s):IntKind.i64.wrap (a*b)=a*b:=by
 have g2:=cmpP_rng p q
 have g3:=cmpP_rng r s
 rw [<-ha] at g2
 rw [<-hb] at g3
 exact w64 (by rcases g2 with h | h | h<;>rcases g3 with h' | h' | h'<;>rw [h,h']<;>decide) (by rcases g2 with h | h | h<;>rcases g3 with h' | h' | h'<;>rw [h,h']<;>decide)
theorem btw_q {a:Pt} {A:Pq} {k:Nat} {b:Pt} {B:Pq} {c:Pt} {C:Pq} (ha:IsP k a A) (hb:IsP k b B) (hc:IsP k c C) (h:16*k+16<=134217728):Con Tryz.prog 37 [.v a.v,.v b.v,.v c.v] (.v (.bool (btwQ A B C))):=by
 obtain ⟨⟨an0,au0,ad0⟩,⟨an1,au1,ad1⟩⟩:=a
 have hax:Is k ⟨an0,au0,ad0⟩ A.x:=ha.x
 have hay:Is k ⟨an1,au1,ad1⟩ A.y:=ha.y
 obtain ⟨⟨bn0,bu0,bd0⟩,⟨bn1,bu1,bd1⟩⟩:=b
 have hbx:Is k ⟨bn0,bu0,bd0⟩ B.x:=hb.x
 have hby:Is k ⟨bn1,bu1,bd1⟩ B.y:=hb.y
 obtain ⟨⟨cn0,cu0,cd0⟩,⟨cn1,cu1,cd1⟩⟩:=c
 have hcx:Is k ⟨cn0,cu0,cd0⟩ C.x:=hc.x
 have hcy:Is k ⟨cn1,cu1,cd1⟩ C.y:=hc.y
 obtain ⟨r0,e0⟩:∃ r,r=btwQ A B C:=⟨_,rfl⟩
 rw [<-e0]
 refine Con.of ttOk mixed Tryz.func37 { ord:=[(3,[0,1,3,4,2,5,6,7,8,9,10,11,12,13,14,15,16,17,18,19,20])] } .nil 0 (by kernel_rfl) (fun P' E hP hE=>?_)
 cbv
 refine orient_c hP hE (by assumption) (by assumption) (by assumption) (by omega) ?_
 intro m1 em1
 cbv
 refine fork.mk ?_ ?_
 ·intro k1
  cbv
  subst hE
  simp [std] at k1
  simp [e0,btwQ,<-em1,k1]
 ·intro k1
  cbv
  refine vcmp_c hP hE (by assumption) (by assumption) (by omega) ?_
  intro m2 em2
  cbv
  refine vcmp_c hP hE (by assumption) (by assumption) (by omega) ?_
  intro m3 em3
  cbv
  refine fork.mk ?_ ?_
  ·intro k2
   cbv
   refine vcmp_c hP hE (by assumption) (by assumption) (by omega) ?_
   intro m4 em4
   cbv
   refine fork.mk ?_ ?_
   ·intro k3
    cbv
    subst hE
    simp [std,wrap_pp em2 em3] at k1 k2 k3
    simp [e0,btwQ,<-em1,<-em2,<-em3,<-em4,k1,k2,k3]
   ·intro k3
    cbv
    refine vcmp_c hP hE (by assumption) (by assumption) (by omega) ?_
    intro m5 em5
    cbv
    subst hE
    have e5:m5=m2:=em5.trans em2.symm
    simp [std,wrap_pp em2 em3] at k1 k2 k3
    simp [std,e0,btwQ,<-em1,<-em2,<-em3,<-em4,k1,k2,k3,e5]
    rfl
  ·intro k2
   cbv
   subst hE
   simp [std,wrap_pp em2 em3] at k1 k2
   simp [e0,btwQ,<-em1,<-em2,<-em3,k1]
   intro h; omega
theorem btw_p {a:Pt} {A:Pq} {k:Nat} {b:Pt} {B:Pq} {c:Pt} {C:Pq} (ha:IsP k a A) (hb:IsP k b B) (hc:IsP k c C) (h:16*k+16<=134217728):∃ (r0:Bool),r0=btwQ A B C/\Con Tryz.prog 37 [.v a.v,.v b.v,.v c.v] (.v (.bool r0)):=⟨_,rfl,btw_q ha hb hc h⟩
theorem schk_q {a:Sg} {S:Sq} {k:Nat} (ha:IsS k a S) (h:2*k<=134217728):Con Tryz.prog 256 [.v a.v] (.v (.int .i64 (chkQ S))):=by
 obtain ⟨⟨⟨an0,au0,ad0⟩,⟨an1,au1,ad1⟩⟩,⟨⟨an2,au2,ad2⟩,⟨an3,au3,ad3⟩⟩⟩:=a
 have haa:IsP k ⟨⟨an0,au0,ad0⟩,⟨an1,au1,ad1⟩⟩ S.a:=ha.a
 have hab:IsP k ⟨⟨an2,au2,ad2⟩,⟨an3,au3,ad3⟩⟩ S.b:=ha.b
 have haax:Is k ⟨an0,au0,ad0⟩ S.a.x:=ha.a.x
 have haay:Is k ⟨an1,au1,ad1⟩ S.a.y:=ha.a.y
 have habx:Is k ⟨an2,au2,ad2⟩ S.b.x:=ha.b.x
 have haby:Is k ⟨an3,au3,ad3⟩ S.b.y:=ha.b.y
 obtain ⟨r0,e0⟩:∃ r,r=chkQ S:=⟨_,rfl⟩
 rw [<-e0]
 refine Con.of ttOk mixed Tryz.func256 {} .nil 0 (by kernel_rfl) (fun P' E hP hE=>?_)
 cbv
 refine vcmp_c hP hE (by assumption) (by assumption) (by omega) ?_
 intro m1 em1
 cbv
 refine fork.mk ?_ ?_
 ·intro k1
  cbv
  subst hE
  simp [std] at k1
  simp [e0,chkQ,<-em1,k1]
 ·intro k1
  cbv
  subst hE
  simp [std] at k1
  simp [e0,chkQ,<-em1,k1]
theorem schk_c {P':Program} {E:Env} (hP:P'=Tryz.prog) (hE:E=std) {hh:List Blk} {K:AV->List Blk->Prop} {an0 an1 an2 an3:Bool} {au0 ad0 au1 ad1 au2 ad2 au3 ad3:ByteArray} {S:Sq} {k:Nat} (ha:IsS k ⟨⟨⟨an0,au0,ad0⟩,⟨an1,au1,ad1⟩⟩,⟨⟨an2,au2,ad2⟩,⟨an3,au3,ad3⟩⟩⟩ S) (h:2*k<=134217728) (hk:∀ r0:Int,r0=chkQ S->K (.v (.int .i64 r0)) hh):CallTo P' hh 256 [.v (.agg #[.bool an0,.string au0,.string ad0,.bool an1,.string au1,.string ad1,.bool an2,.string au2,.string ad2,.bool an3,.string au3,.string ad3])] K:=by
 refine CallTo.con hP hE (schk_q ha h) ⟨rfl,trivial⟩ ?_
 have:=hk _ rfl
 simp only [outV,outW,List.append_nil]
 exact this
theorem Pq.add_zero (p:Pq):p.add Pq.zero=p:=Pq.ext' (Rat.add_zero _) (Rat.add_zero _)
theorem IsP.zero:IsP 1 ⟨⟨false,⟨⟨[]⟩⟩,⟨⟨[]⟩⟩⟩,⟨false,⟨⟨[]⟩⟩,⟨⟨[]⟩⟩⟩⟩ Pq.zero:=⟨Is.zero,Is.zero⟩
theorem crP_zero:crP Pq.zero=⟨⟨false,⟨⟨[]⟩⟩,⟨⟨[]⟩⟩⟩,⟨false,⟨⟨[]⟩⟩,⟨⟨[]⟩⟩⟩⟩:=by
 show Pt.mk (cr 0) (cr 0)=_
 rw [cr_zero]
theorem crS_zero:crS Sq.zero=⟨⟨⟨false,⟨⟨[]⟩⟩,⟨⟨[]⟩⟩⟩,⟨false,⟨⟨[]⟩⟩,⟨⟨[]⟩⟩⟩⟩,⟨⟨false,⟨⟨[]⟩⟩,⟨⟨[]⟩⟩⟩,⟨false,⟨⟨[]⟩⟩,⟨⟨[]⟩⟩⟩⟩⟩:=by
 show Sg.mk (crP Pq.zero) (crP Pq.zero)=_
 rw [crP_zero]
theorem canon_q {a:Pt} {A:Pq} {k:Nat} (ha:IsP k a A) (h:k+1<=134217728):Con Tryz.prog 304 [.v a.v] (.v ((crP (A)).v)):=by
 obtain ⟨⟨an0,au0,ad0⟩,⟨an1,au1,ad1⟩⟩:=a
 have hax:Is k ⟨an0,au0,ad0⟩ A.x:=ha.x
 have hay:Is k ⟨an1,au1,ad1⟩ A.y:=ha.y
 obtain ⟨r0,e0⟩:∃ r,r=crP (A):=⟨_,rfl⟩
 rw [<-e0]
 have hz:=IsP.zero
 refine Con.of ttOk mixed Tryz.func304 {} .nil 0 (by kernel_rfl) (fun P' E hP hE=>?_)
 cbv
 refine vadd_c hP hE (by assumption) (by assumption) (by omega) ?_
 intro c1 ec1 hc1 hc1x hc1y
 cbv
 rw [Pq.add_zero] at ec1
 rw [e0,ec1]
theorem sdir_q {a:Sg} {S:Sq} {k:Nat} (ha:IsS k a S) (h:2*k<=134217728):Con Tryz.prog 312 [.v a.v] (.v ((crP (S.b.sub S.a)).v)):=by
 obtain ⟨⟨⟨an0,au0,ad0⟩,⟨an1,au1,ad1⟩⟩,⟨⟨an2,au2,ad2⟩,⟨an3,au3,ad3⟩⟩⟩:=a
 have haa:IsP k ⟨⟨an0,au0,ad0⟩,⟨an1,au1,ad1⟩⟩ S.a:=ha.a
 have hab:IsP k ⟨⟨an2,au2,ad2⟩,⟨an3,au3,ad3⟩⟩ S.b:=ha.b
 have haax:Is k ⟨an0,au0,ad0⟩ S.a.x:=ha.a.x
 have haay:Is k ⟨an1,au1,ad1⟩ S.a.y:=ha.a.y
 have habx:Is k ⟨an2,au2,ad2⟩ S.b.x:=ha.b.x
 have haby:Is k ⟨an3,au3,ad3⟩ S.b.y:=ha.b.y
 obtain ⟨r0,e0⟩:∃ r,r=crP (S.b.sub S.a):=⟨_,rfl⟩
 rw [<-e0]
 refine Con.of ttOk mixed Tryz.func312 {} .nil 0 (by kernel_rfl) (fun P' E hP hE=>?_)
 cbv
 refine vsub_c hP hE (by assumption) (by assumption) (by omega) ?_
 intro c1 ec1 hc1 hc1x hc1y
 cbv
 rw [e0,ec1]
theorem sdir_c {P':Program} {E:Env} (hP:P'=Tryz.prog) (hE:E=std) {hh:List Blk} {K:AV->List Blk->Prop} {an0 an1 an2 an3:Bool} {au0 ad0 au1 ad1 au2 ad2 au3 ad3:ByteArray} {S:Sq} {k:Nat} (ha:IsS k ⟨⟨⟨an0,au0,ad0⟩,⟨an1,au1,ad1⟩⟩,⟨⟨an2,au2,ad2⟩,⟨an3,au3,ad3⟩⟩⟩ S) (h:2*k<=134217728) (hk:∀ r0:Pt,r0=crP (S.b.sub S.a)->IsP (2*k+1) r0 (S.b.sub S.a)->Is (2*k+1) r0.x (S.b.sub S.a).x->Is (2*k+1) r0.y (S.b.sub S.a).y->K (.v (r0.v)) hh):CallTo P' hh 312 [.v (.agg #[.bool an0,.string au0,.string ad0,.bool an1,.string au1,.string ad1,.bool an2,.string au2,.string ad2,.bool an3,.string au3,.string ad3])] K:=by
 refine CallTo.con hP hE (sdir_q ha h) ⟨rfl,trivial⟩ ?_
 have:=hk _ rfl ((ha.bd.b.sub ha.bd.a).mono (by omega)).is ((ha.bd.b.sub ha.bd.a).mono (by omega)).is.x ((ha.bd.b.sub ha.bd.a).mono (by omega)).is.y
 simp only [outV,outW,List.append_nil]
 exact this
theorem sdir_p {a:Sg} {S:Sq} {k:Nat} (ha:IsS k a S) (h:2*k<=134217728):∃ (r0:Pt),r0=crP (S.b.sub S.a)/\IsP (2*k+1) r0 (S.b.sub S.a)/\Con Tryz.prog 312 [.v a.v] (.v (r0.v)):=⟨_,rfl,((ha.bd.b.sub ha.bd.a).mono (by omega)).is,sdir_q ha h⟩
theorem ofc_c {P':Program} {E:Env} (hP:P'=Tryz.prog) (hE:E=std) {hh:List Blk} {K:AV->List Blk->Prop} {a:AV} {ab:Bool} {n:Int} (ha:AV.val a=some (ab,.int .i64 n)) (h0 : -9223372036854775808<=n/\n < 9223372036854775808) (hk:∀ r0:R,r0=cr (n:Rat)->Is 8 r0 (n:Rat)->K (.v (r0.v)) hh):CallTo P' hh 44 [a] K:=by
 refine CallTo.con hP hE (ofQ_q n h0.1 h0.2) ⟨fit_val ha,trivial⟩ ?_
 have:=hk _ rfl (Bd.int (by have:(256:Nat) ^ 8=18446744073709551616:=(by decide); omega) (by decide)).is
 simp only [outV,outW,List.append_nil]
 exact this
theorem unit_q {a:R} {x:Rat} {k:Nat} (ha:Is k a x) (h:k+8<=134217728):Con Tryz.prog 313 [.v a.v] (.v (.bool (unitQ x))):=by
 obtain ⟨an0,au0,ad0⟩:=a
 obtain ⟨r0,e0⟩:∃ r,r=unitQ x:=⟨_,rfl⟩
 rw [<-e0]
 refine Con.of ttOk mixed Tryz.func313 { ord:=[(1,[0,1,2,3,4,5,6,7,8,9])] } .nil 0 (by kernel_rfl) (fun P' E hP hE=>?_)
 cbv
 refine sign_c hP hE (by assumption) (by omega) ?_
 intro m1 em1
 cbv
 refine fork.mk ?_ ?_
 ·intro k1
  cbv
  refine ofc_c hP hE rfl (by omega) ?_
  intro c1 ec1 hc1
  cbv
  refine cmp_c hP hE (by assumption) (by assumption) (by omega) ?_
  intro m2 em2
  cbv
  subst hE
  simp [std] at k1
  simp [std,e0,unitQ,<-em1,k1,em2]
 ·intro k1
  cbv
  subst hE
  simp [std] at k1
  simp [e0,unitQ,<-em1]
  intro h; omega
theorem unit_c {P':Program} {E:Env} (hP:P'=Tryz.prog) (hE:E=std) {hh:List Blk} {K:AV->List Blk->Prop} {an0:Bool} {au0 ad0:ByteArray} {x:Rat} {k:Nat} (ha:Is k ⟨an0,au0,ad0⟩ x) (h:k+8<=134217728) (hk:∀ r0:Bool,r0=unitQ x->K (.v (.bool r0)) hh):CallTo P' hh 313 [.v (.agg #[.bool an0,.string au0,.string ad0])] K:=by
 refine CallTo.con hP hE (unit_q ha h) ⟨rfl,trivial⟩ ?_
 have:=hk _ rfl
 simp only [outV,outW,List.append_nil]
 exact this
theorem grt_q {a:Pt} {A:Pq} {k:Nat} {b:Pt} {B:Pq} (ha:IsP k a A) (ea:a=crP A) (hb:IsP k b B) (eb:b=crP B) (h:2*k<=134217728):Con Tryz.prog 309 [.v a.v,.v b.v] (.v ((crP (grP A B)).v)):=by
 obtain ⟨⟨an0,au0,ad0⟩,⟨an1,au1,ad1⟩⟩:=a
 have hax:Is k ⟨an0,au0,ad0⟩ A.x:=ha.x
 have hay:Is k ⟨an1,au1,ad1⟩ A.y:=ha.y
 obtain ⟨⟨bn0,bu0,bd0⟩,⟨bn1,bu1,bd1⟩⟩:=b
 have hbx:Is k ⟨bn0,bu0,bd0⟩ B.x:=hb.x
 have hby:Is k ⟨bn1,bu1,bd1⟩ B.y:=hb.y
 obtain ⟨r0,e0⟩:∃ r,r=crP (grP A B):=⟨_,rfl⟩
 rw [<-e0]
 refine Con.of ttOk mixed Tryz.func309 {} .nil 0 (by kernel_rfl) (fun P' E hP hE=>?_)
 cbv
 refine vcmp_c hP hE (by assumption) (by assumption) (by omega) ?_
 intro m1 em1
 cbv
 refine fork.mk ?_ ?_
 ·intro k1
  cbv
  subst hE
  simp [std] at k1
  rw [e0,grP,if_pos (by rw [<-em1]; exact k1),<-eb]
 ·intro k1
  cbv
  subst hE
  simp [std] at k1
  rw [e0,grP,if_neg (by rw [<-em1]; omega),<-ea]
theorem grt_p {a:Pt} {A:Pq} {k:Nat} {b:Pt} {B:Pq} (ha:IsP k a A) (ea:a=crP A) (hb:IsP k b B) (eb:b=crP B) (h:2*k<=134217728):∃ (r0:Pt),r0=crP (grP A B)/\IsP (k) r0 (grP A B)/\Con Tryz.prog 309 [.v a.v,.v b.v] (.v (r0.v)):=⟨_,rfl,(ha.b.gr hb.b).is,grt_q ha ea hb eb h⟩
theorem les_q {a:Pt} {A:Pq} {k:Nat} {b:Pt} {B:Pq} (ha:IsP k a A) (ea:a=crP A) (hb:IsP k b B) (eb:b=crP B) (h:2*k<=134217728):Con Tryz.prog 308 [.v a.v,.v b.v] (.v ((crP (lsP A B)).v)):=by
 obtain ⟨⟨an0,au0,ad0⟩,⟨an1,au1,ad1⟩⟩:=a
 have hax:Is k ⟨an0,au0,ad0⟩ A.x:=ha.x
 have hay:Is k ⟨an1,au1,ad1⟩ A.y:=ha.y
 obtain ⟨⟨bn0,bu0,bd0⟩,⟨bn1,bu1,bd1⟩⟩:=b
 have hbx:Is k ⟨bn0,bu0,bd0⟩ B.x:=hb.x
 have hby:Is k ⟨bn1,bu1,bd1⟩ B.y:=hb.y
 obtain ⟨r0,e0⟩:∃ r,r=crP (lsP A B):=⟨_,rfl⟩
 rw [<-e0]
 refine Con.of ttOk mixed Tryz.func308 {} .nil 0 (by kernel_rfl) (fun P' E hP hE=>?_)
 cbv
 refine vcmp_c hP hE (by assumption) (by assumption) (by omega) ?_
 intro m1 em1
 cbv
 refine fork.mk ?_ ?_
 ·intro k1
  cbv
  subst hE
  simp [std] at k1
  rw [e0,lsP,if_pos (by rw [<-em1]; exact k1),<-ea]
 ·intro k1
  cbv
  subst hE
  simp [std] at k1
  rw [e0,lsP,if_neg (by rw [<-em1]; omega),<-eb]
theorem les_p {a:Pt} {A:Pq} {k:Nat} {b:Pt} {B:Pq} (ha:IsP k a A) (ea:a=crP A) (hb:IsP k b B) (eb:b=crP B) (h:2*k<=134217728):∃ (r0:Pt),r0=crP (lsP A B)/\IsP (k) r0 (lsP A B)/\Con Tryz.prog 308 [.v a.v,.v b.v] (.v (r0.v)):=⟨_,rfl,(ha.b.ls hb.b).is,les_q ha ea hb eb h⟩
theorem wrong_q {a:Sg} {S:Sq} {k:Nat} {b:Sg} {T:Sq} (ha:IsS k a S) (hb:IsS k b T) (h:2*k<=134217728):Con Tryz.prog 267 [.v a.v,.v b.v] (.v (.bool (wrongQ S T))):=by
 obtain ⟨⟨⟨an0,au0,ad0⟩,⟨an1,au1,ad1⟩⟩,⟨⟨an2,au2,ad2⟩,⟨an3,au3,ad3⟩⟩⟩:=a
 have haa:IsP k ⟨⟨an0,au0,ad0⟩,⟨an1,au1,ad1⟩⟩ S.a:=ha.a
 have hab:IsP k ⟨⟨an2,au2,ad2⟩,⟨an3,au3,ad3⟩⟩ S.b:=ha.b
 have haax:Is k ⟨an0,au0,ad0⟩ S.a.x:=ha.a.x
 have haay:Is k ⟨an1,au1,ad1⟩ S.a.y:=ha.a.y
 have habx:Is k ⟨an2,au2,ad2⟩ S.b.x:=ha.b.x
 have haby:Is k ⟨an3,au3,ad3⟩ S.b.y:=ha.b.y
 obtain ⟨⟨⟨bn0,bu0,bd0⟩,⟨bn1,bu1,bd1⟩⟩,⟨⟨bn2,bu2,bd2⟩,⟨bn3,bu3,bd3⟩⟩⟩:=b
 have hba:IsP k ⟨⟨bn0,bu0,bd0⟩,⟨bn1,bu1,bd1⟩⟩ T.a:=hb.a
 have hbb:IsP k ⟨⟨bn2,bu2,bd2⟩,⟨bn3,bu3,bd3⟩⟩ T.b:=hb.b
 have hbax:Is k ⟨bn0,bu0,bd0⟩ T.a.x:=hb.a.x
 have hbay:Is k ⟨bn1,bu1,bd1⟩ T.a.y:=hb.a.y
 have hbbx:Is k ⟨bn2,bu2,bd2⟩ T.b.x:=hb.b.x
 have hbby:Is k ⟨bn3,bu3,bd3⟩ T.b.y:=hb.b.y
 obtain ⟨r0,e0⟩:∃ r,r=wrongQ S T:=⟨_,rfl⟩
 rw [<-e0]
 refine Con.of ttOk mixed Tryz.func267 {} .nil 0 (by kernel_rfl) (fun P' E hP hE=>?_)
 cbv
 refine schk_c hP hE (by assumption) (by omega) ?_
 intro m1 em1
 cbv
 refine fork.mk ?_ ?_
 ·intro k1
  cbv
  subst hE
  simp [std] at k1
  simp [e0,wrongQ,<-em1,k1]
 ·intro k1
  cbv
  refine schk_c hP hE (by assumption) (by omega) ?_
  intro m2 em2
  cbv
  subst hE
  simp [std] at k1
  simp [std,e0,wrongQ,<-em1,k1,<-em2]
  rfl
theorem wrong_c {P':Program} {E:Env} (hP:P'=Tryz.prog) (hE:E=std) {hh:List Blk} {K:AV->List Blk->Prop} {an0 an1 an2 an3:Bool} {au0 ad0 au1 ad1 au2 ad2 au3 ad3:ByteArray} {S:Sq} {k:Nat} {bn0 bn1 bn2 bn3:Bool} {bu0 bd0 bu1 bd1 bu2 bd2 bu3 bd3:ByteArray} {T:Sq} (ha:IsS k ⟨⟨⟨an0,au0,ad0⟩,⟨an1,au1,ad1⟩⟩,⟨⟨an2,au2,ad2⟩,⟨an3,au3,ad3⟩⟩⟩ S) (hb:IsS k ⟨⟨⟨bn0,bu0,bd0⟩,⟨bn1,bu1,bd1⟩⟩,⟨⟨bn2,bu2,bd2⟩,⟨bn3,bu3,bd3⟩⟩⟩ T) (h:2*k<=134217728) (hk:∀ r0:Bool,r0=wrongQ S T->K (.v (.bool r0)) hh):CallTo P' hh 267 [.v (.agg #[.bool an0,.string au0,.string ad0,.bool an1,.string au1,.string ad1,.bool an2,.string au2,.string ad2,.bool an3,.string au3,.string ad3]),.v (.agg #[.bool bn0,.string bu0,.string bd0,.bool bn1,.string bu1,.string bd1,.bool bn2,.string bu2,.string bd2,.bool bn3,.string bu3,.string bd3])] K:=by
 refine CallTo.con hP hE (wrong_q ha hb h) ⟨rfl,rfl,trivial⟩ ?_
 have:=hk _ rfl
 simp only [outV,outW,List.append_nil]
 exact this
theorem sord_q {a:Sg} {S:Sq} {k:Nat} (ha:IsS k a S) (h:2*k+1<=134217728):Con Tryz.prog 251 [.v a.v] (.v ((crS (ordS S)).v)):=by
 obtain ⟨⟨⟨an0,au0,ad0⟩,⟨an1,au1,ad1⟩⟩,⟨⟨an2,au2,ad2⟩,⟨an3,au3,ad3⟩⟩⟩:=a
 have haa:IsP k ⟨⟨an0,au0,ad0⟩,⟨an1,au1,ad1⟩⟩ S.a:=ha.a
 have hab:IsP k ⟨⟨an2,au2,ad2⟩,⟨an3,au3,ad3⟩⟩ S.b:=ha.b
 have haax:Is k ⟨an0,au0,ad0⟩ S.a.x:=ha.a.x
 have haay:Is k ⟨an1,au1,ad1⟩ S.a.y:=ha.a.y
 have habx:Is k ⟨an2,au2,ad2⟩ S.b.x:=ha.b.x
 have haby:Is k ⟨an3,au3,ad3⟩ S.b.y:=ha.b.y
 obtain ⟨r0,e0⟩:∃ r,r=crS (ordS S):=⟨_,rfl⟩
 rw [<-e0]
 have k1:=canon_q haa (by omega)
 have k2:=canon_q hab (by omega)
 obtain ⟨c1,ec1⟩:∃ c,c=crP S.a:=⟨_,rfl⟩
 obtain ⟨c2,ec2⟩:∃ c,c=crP S.b:=⟨_,rfl⟩
 have hc1:IsP k c1 S.a:=by rw [ec1]; exact haa.b.is
 have hc2:IsP k c2 S.b:=by rw [ec2]; exact hab.b.is
 rw [<-ec1] at k1
 rw [<-ec2] at k2
 refine Con.of ttOk mixed Tryz.func251 { ord:=[(1,(.op 0 (.op 1 (.op 3 (.op 4 (.br 2 (.br 5 (.br 6 (.op 7 (.op 8 (.op 9 .nil))) (.br 7 (.op 6 (.op 8 (.op 9 .nil))) .stop)) (.br 6 (.br 5 (.op 7 (.op 8 (.op 9 .nil))) (.br 7 (.op 5 (.op 8 (.op 9 .nil))) .stop)) (.br 7 (.br 5 (.op 6 (.op 8 (.op 9 .nil))) (.br 6 (.op 5 (.op 8 (.op 9 .nil))) .stop)) .stop))) (.br 6 (.br 2 (.br 5 (.op 7 (.op 8 (.op 9 .nil))) (.br 7 (.op 5 (.op 8 (.op 9 .nil))) .stop)) (.br 7 (.op 2 (.op 5 (.op 8 (.op 9 .nil)))) .stop)) (.br 7 (.br 2 (.br 5 (.op 6 (.op 8 (.op 9 .nil))) (.br 6 (.op 5 (.op 8 (.op 9 .nil))) .stop)) (.br 6 (.op 2 (.op 5 (.op 8 (.op 9 .nil)))) .stop)) .stop))))))))] } .nil 0 (by kernel_rfl) (fun P' E hP hE=>?_)
 cbv
 refine DrawTo.byU [(3,.p 3 0),(4,.p 4 0)] [.cells c1.av 33,.cells c2.av 33] ?_ ?_
 ·cbv
  repeat' first
   | exact True.intro
   | (refine Both.mk ?_ ?_<;>cbv)
   | (refine CallTo.w hP hE k1 ⟨rfl,trivial⟩ ?_; cbv)
   | (refine CallTo.w hP hE k2 ⟨rfl,trivial⟩ ?_; cbv)
   | (simp only [and_self]; done)
 ·cbv
  refine vcmp_c hP hE (by assumption) (by assumption) (by omega) ?_
  intro m1 em1
  cbv
  refine fork.mk ?_ ?_
  ·intro g1
   cbv
   subst hE
   simp [std] at g1
   rw [e0,ordS,if_pos (by rw [<-em1]; exact g1),ec1,ec2]; rfl
  ·intro g1
   cbv
   subst hE
   simp [std] at g1
   rw [e0,ordS,if_neg (by rw [<-em1]; omega),ec1,ec2]; rfl
theorem sord_p {a:Sg} {S:Sq} {k:Nat} (ha:IsS k a S) (h:2*k+1<=134217728):∃ (r0:Sg),r0=crS (ordS S)/\IsS (k) r0 (ordS S)/\Con Tryz.prog 251 [.v a.v] (.v (r0.v)):=⟨_,rfl,(ha.bd.ord).is,sord_q ha h⟩
theorem meet0_q {a:Sg} {S:Sq} {k:Nat} {b:Sg} {T:Sq} (ha:IsS k a S) (hb:IsS k b T) (h:40*k+40<=134217728):Con Tryz.prog 268 [.v a.v,.v b.v] (.v (.tuple #[(crS ((meetQ S T).getD Sq.zero)).v,.bool ((meetQ S T).isSome)])):=by
 obtain ⟨⟨⟨an0,au0,ad0⟩,⟨an1,au1,ad1⟩⟩,⟨⟨an2,au2,ad2⟩,⟨an3,au3,ad3⟩⟩⟩:=a
 have haa:IsP k ⟨⟨an0,au0,ad0⟩,⟨an1,au1,ad1⟩⟩ S.a:=ha.a
 have hab:IsP k ⟨⟨an2,au2,ad2⟩,⟨an3,au3,ad3⟩⟩ S.b:=ha.b
 have haax:Is k ⟨an0,au0,ad0⟩ S.a.x:=ha.a.x
 have haay:Is k ⟨an1,au1,ad1⟩ S.a.y:=ha.a.y
 have habx:Is k ⟨an2,au2,ad2⟩ S.b.x:=ha.b.x
 have haby:Is k ⟨an3,au3,ad3⟩ S.b.y:=ha.b.y
 obtain ⟨⟨⟨bn0,bu0,bd0⟩,⟨bn1,bu1,bd1⟩⟩,⟨⟨bn2,bu2,bd2⟩,⟨bn3,bu3,bd3⟩⟩⟩:=b
 have hba:IsP k ⟨⟨bn0,bu0,bd0⟩,⟨bn1,bu1,bd1⟩⟩ T.a:=hb.a
 have hbb:IsP k ⟨⟨bn2,bu2,bd2⟩,⟨bn3,bu3,bd3⟩⟩ T.b:=hb.b
 have hbax:Is k ⟨bn0,bu0,bd0⟩ T.a.x:=hb.a.x
 have hbay:Is k ⟨bn1,bu1,bd1⟩ T.a.y:=hb.a.y
 have hbbx:Is k ⟨bn2,bu2,bd2⟩ T.b.x:=hb.b.x
 have hbby:Is k ⟨bn3,bu3,bd3⟩ T.b.y:=hb.b.y
 obtain ⟨r0,e0⟩:∃ r,r=crS ((meetQ S T).getD Sq.zero):=⟨_,rfl⟩
 rw [<-e0]
 obtain ⟨r1,e1⟩:∃ r,r=(meetQ S T).isSome:=⟨_,rfl⟩
 rw [<-e1]
 have hz:=IsP.zero
 obtain ⟨u,eu,hu,ku⟩:=sdir_p ha (by omega)
 obtain ⟨v,ev,hv,kv⟩:=sdir_p hb (by omega)
 obtain ⟨w,ew,hw,kw⟩:=vsub_p hba haa (by omega)
 obtain ⟨d,ed,hd,kd⟩:=vcross_p hu hv (by omega)
 obtain ⟨c1,ec1,hc1,kc1⟩:=vcross_p hw hv (by omega)
 obtain ⟨x,xe,ex,hx,exe,kx⟩:=quo_p hc1 hd (by omega)
 obtain ⟨c2,ec2,hc2,kc2⟩:=vcross_p hw hu (by omega)
 obtain ⟨y,ye,ey,hy,eye,ky⟩:=quo_p hc2 hd (by omega)
 obtain ⟨os,eos,hos,kos⟩:=sord_p ha (by omega)
 obtain ⟨ot,eot,hot,kot⟩:=sord_p hb (by omega)
 obtain ⟨a,ea,ha1,ka⟩:=grt_p hos.a (by rw [eos]; rfl) hot.a (by rw [eot]; rfl) (by omega)
 obtain ⟨b,eb,hb1,kb⟩:=les_p hos.b (by rw [eos]; rfl) hot.b (by rw [eot]; rfl) (by omega)
 refine Con.of ttOk mixed Tryz.func268 { ord:=[(1,(.op 0 (.op 2 (.op 4 (.op 5 (.op 6 (.op 7 (.br 1 (.br 3 (.br 8 (.br 9 (.br 10 (.op 11 (.op 12 (.op 13 (.op 14 .nil)))) (.br 11 (.op 10 (.op 12 (.op 13 (.op 14 .nil)))) .stop)) (.br 10 (.br 9 (.op 11 (.op 12 (.op 13 (.op 14 .nil)))) (.br 11 (.op 9 (.op 12 (.op 13 (.op 14 .nil)))) .stop)) (.br 11 (.br 9 (.op 10 (.op 12 (.op 13 (.op 14 .nil)))) (.br 10 (.op 9 (.op 12 (.op 13 (.op 14 .nil)))) .stop)) .stop))) (.br 9 (.br 8 (.br 10 (.op 11 (.op 12 (.op 13 (.op 14 .nil)))) (.br 11 (.op 10 (.op 12 (.op 13 (.op 14 .nil)))) .stop)) (.br 10 (.br 8 (.op 11 (.op 12 (.op 13 (.op 14 .nil)))) (.br 11 (.op 8 (.op 12 (.op 13 (.op 14 .nil)))) .stop)) (.br 11 (.br 8 (.op 10 (.op 12 (.op 13 (.op 14 .nil)))) (.br 10 (.op 8 (.op 12 (.op 13 (.op 14 .nil)))) .stop)) .stop))) (.br 10 (.br 8 (.br 9 (.op 11 (.op 12 (.op 13 (.op 14 .nil)))) (.br 11 (.op 9 (.op 12 (.op 13 (.op 14 .nil)))) .stop)) (.br 9 (.br 8 (.op 11 (.op 12 (.op 13 (.op 14 .nil)))) (.br 11 (.op 8 (.op 12 (.op 13 (.op 14 .nil)))) .stop)) (.br 11 (.br 8 (.op 9 (.op 12 (.op 13 (.op 14 .nil)))) (.br 9 (.op 8 (.op 12 (.op 13 (.op 14 .nil)))) .stop)) .stop))) (.br 11 (.br 8 (.br 9 (.op 10 (.op 12 (.op 13 (.op 14 .nil)))) (.br 10 (.op 9 (.op 12 (.op 13 (.op 14 .nil)))) .stop)) (.br 9 (.br 8 (.op 10 (.op 12 (.op 13 (.op 14 .nil)))) (.br 10 (.op 8 (.op 12 (.op 13 (.op 14 .nil)))) .stop)) (.br 10 (.br 8 (.op 9 (.op 12 (.op 13 (.op 14 .nil)))) (.br 9 (.op 8 (.op 12 (.op 13 (.op 14 .nil)))) .stop)) .stop))) .stop)))) (.br 9 (.br 3 (.br 8 (.br 10 (.op 11 (.op 12 (.op 13 (.op 14 .nil)))) (.br 11 (.op 10 (.op 12 (.op 13 (.op 14 .nil)))) .stop)) (.br 10 (.br 8 (.op 11 (.op 12 (.op 13 (.op 14 .nil)))) (.br 11 (.op 8 (.op 12 (.op 13 (.op 14 .nil)))) .stop)) (.br 11 (.br 8 (.op 10 (.op 12 (.op 13 (.op 14 .nil)))) (.br 10 (.op 8 (.op 12 (.op 13 (.op 14 .nil)))) .stop)) .stop))) (.br 10 (.br 3 (.br 8 (.op 11 (.op 12 (.op 13 (.op 14 .nil)))) (.br 11 (.op 8 (.op 12 (.op 13 (.op 14 .nil)))) .stop)) (.br 11 (.op 3 (.op 8 (.op 12 (.op 13 (.op 14 .nil))))) .stop)) (.br 11 (.br 3 (.br 8 (.op 10 (.op 12 (.op 13 (.op 14 .nil)))) (.br 10 (.op 8 (.op 12 (.op 13 (.op 14 .nil)))) .stop)) (.br 10 (.op 3 (.op 8 (.op 12 (.op 13 (.op 14 .nil))))) .stop)) .stop))) (.br 10 (.br 3 (.br 8 (.br 9 (.op 11 (.op 12 (.op 13 (.op 14 .nil)))) (.br 11 (.op 9 (.op 12 (.op 13 (.op 14 .nil)))) .stop)) (.br 9 (.br 8 (.op 11 (.op 12 (.op 13 (.op 14 .nil)))) (.br 11 (.op 8 (.op 12 (.op 13 (.op 14 .nil)))) .stop)) (.br 11 (.br 8 (.op 9 (.op 12 (.op 13 (.op 14 .nil)))) (.br 9 (.op 8 (.op 12 (.op 13 (.op 14 .nil)))) .stop)) .stop))) (.br 9 (.br 3 (.br 8 (.op 11 (.op 12 (.op 13 (.op 14 .nil)))) (.br 11 (.op 8 (.op 12 (.op 13 (.op 14 .nil)))) .stop)) (.br 11 (.op 3 (.op 8 (.op 12 (.op 13 (.op 14 .nil))))) .stop)) (.br 11 (.br 3 (.br 8 (.op 9 (.op 12 (.op 13 (.op 14 .nil)))) (.br 9 (.op 8 (.op 12 (.op 13 (.op 14 .nil)))) .stop)) (.br 9 (.op 3 (.op 8 (.op 12 (.op 13 (.op 14 .nil))))) .stop)) .stop))) (.br 11 (.br 3 (.br 8 (.br 9 (.op 10 (.op 12 (.op 13 (.op 14 .nil)))) (.br 10 (.op 9 (.op 12 (.op 13 (.op 14 .nil)))) .stop)) (.br 9 (.br 8 (.op 10 (.op 12 (.op 13 (.op 14 .nil)))) (.br 10 (.op 8 (.op 12 (.op 13 (.op 14 .nil)))) .stop)) (.br 10 (.br 8 (.op 9 (.op 12 (.op 13 (.op 14 .nil)))) (.br 9 (.op 8 (.op 12 (.op 13 (.op 14 .nil)))) .stop)) .stop))) (.br 9 (.br 3 (.br 8 (.op 10 (.op 12 (.op 13 (.op 14 .nil)))) (.br 10 (.op 8 (.op 12 (.op 13 (.op 14 .nil)))) .stop)) (.br 10 (.op 3 (.op 8 (.op 12 (.op 13 (.op 14 .nil))))) .stop)) (.br 10 (.br 3 (.br 8 (.op 9 (.op 12 (.op 13 (.op 14 .nil)))) (.br 9 (.op 8 (.op 12 (.op 13 (.op 14 .nil)))) .stop)) (.br 9 (.op 3 (.op 8 (.op 12 (.op 13 (.op 14 .nil))))) .stop)) .stop))) .stop)))) (.br 9 (.br 1 (.br 3 (.br 8 (.br 10 (.op 11 (.op 12 (.op 13 (.op 14 .nil)))) (.br 11 (.op 10 (.op 12 (.op 13 (.op 14 .nil)))) .stop)) (.br 10 (.br 8 (.op 11 (.op 12 (.op 13 (.op 14 .nil)))) (.br 11 (.op 8 (.op 12 (.op 13 (.op 14 .nil)))) .stop)) (.br 11 (.br 8 (.op 10 (.op 12 (.op 13 (.op 14 .nil)))) (.br 10 (.op 8 (.op 12 (.op 13 (.op 14 .nil)))) .stop)) .stop))) (.br 10 (.br 3 (.br 8 (.op 11 (.op 12 (.op 13 (.op 14 .nil)))) (.br 11 (.op 8 (.op 12 (.op 13 (.op 14 .nil)))) .stop)) (.br 11 (.op 3 (.op 8 (.op 12 (.op 13 (.op 14 .nil))))) .stop)) (.br 11 (.br 3 (.br 8 (.op 10 (.op 12 (.op 13 (.op 14 .nil)))) (.br 10 (.op 8 (.op 12 (.op 13 (.op 14 .nil)))) .stop)) (.br 10 (.op 3 (.op 8 (.op 12 (.op 13 (.op 14 .nil))))) .stop)) .stop))) (.br 10 (.br 1 (.br 3 (.br 8 (.op 11 (.op 12 (.op 13 (.op 14 .nil)))) (.br 11 (.op 8 (.op 12 (.op 13 (.op 14 .nil)))) .stop)) (.br 11 (.op 3 (.op 8 (.op 12 (.op 13 (.op 14 .nil))))) .stop)) (.br 11 (.op 1 (.op 3 (.op 8 (.op 12 (.op 13 (.op 14 .nil)))))) .stop)) (.br 11 (.br 1 (.br 3 (.br 8 (.op 10 (.op 12 (.op 13 (.op 14 .nil)))) (.br 10 (.op 8 (.op 12 (.op 13 (.op 14 .nil)))) .stop)) (.br 10 (.op 3 (.op 8 (.op 12 (.op 13 (.op 14 .nil))))) .stop)) (.br 10 (.op 1 (.op 3 (.op 8 (.op 12 (.op 13 (.op 14 .nil)))))) .stop)) .stop))) (.br 10 (.br 1 (.br 3 (.br 8 (.br 9 (.op 11 (.op 12 (.op 13 (.op 14 .nil)))) (.br 11 (.op 9 (.op 12 (.op 13 (.op 14 .nil)))) .stop)) (.br 9 (.br 8 (.op 11 (.op 12 (.op 13 (.op 14 .nil)))) (.br 11 (.op 8 (.op 12 (.op 13 (.op 14 .nil)))) .stop)) (.br 11 (.br 8 (.op 9 (.op 12 (.op 13 (.op 14 .nil)))) (.br 9 (.op 8 (.op 12 (.op 13 (.op 14 .nil)))) .stop)) .stop))) (.br 9 (.br 3 (.br 8 (.op 11 (.op 12 (.op 13 (.op 14 .nil)))) (.br 11 (.op 8 (.op 12 (.op 13 (.op 14 .nil)))) .stop)) (.br 11 (.op 3 (.op 8 (.op 12 (.op 13 (.op 14 .nil))))) .stop)) (.br 11 (.br 3 (.br 8 (.op 9 (.op 12 (.op 13 (.op 14 .nil)))) (.br 9 (.op 8 (.op 12 (.op 13 (.op 14 .nil)))) .stop)) (.br 9 (.op 3 (.op 8 (.op 12 (.op 13 (.op 14 .nil))))) .stop)) .stop))) (.br 9 (.br 1 (.br 3 (.br 8 (.op 11 (.op 12 (.op 13 (.op 14 .nil)))) (.br 11 (.op 8 (.op 12 (.op 13 (.op 14 .nil)))) .stop)) (.br 11 (.op 3 (.op 8 (.op 12 (.op 13 (.op 14 .nil))))) .stop)) (.br 11 (.op 1 (.op 3 (.op 8 (.op 12 (.op 13 (.op 14 .nil)))))) .stop)) (.br 11 (.br 1 (.br 3 (.br 8 (.op 9 (.op 12 (.op 13 (.op 14 .nil)))) (.br 9 (.op 8 (.op 12 (.op 13 (.op 14 .nil)))) .stop)) (.br 9 (.op 3 (.op 8 (.op 12 (.op 13 (.op 14 .nil))))) .stop)) (.br 9 (.op 1 (.op 3 (.op 8 (.op 12 (.op 13 (.op 14 .nil)))))) .stop)) .stop))) (.br 11 (.br 1 (.br 3 (.br 8 (.br 9 (.op 10 (.op 12 (.op 13 (.op 14 .nil)))) (.br 10 (.op 9 (.op 12 (.op 13 (.op 14 .nil)))) .stop)) (.br 9 (.br 8 (.op 10 (.op 12 (.op 13 (.op 14 .nil)))) (.br 10 (.op 8 (.op 12 (.op 13 (.op 14 .nil)))) .stop)) (.br 10 (.br 8 (.op 9 (.op 12 (.op 13 (.op 14 .nil)))) (.br 9 (.op 8 (.op 12 (.op 13 (.op 14 .nil)))) .stop)) .stop))) (.br 9 (.br 3 (.br 8 (.op 10 (.op 12 (.op 13 (.op 14 .nil)))) (.br 10 (.op 8 (.op 12 (.op 13 (.op 14 .nil)))) .stop)) (.br 10 (.op 3 (.op 8 (.op 12 (.op 13 (.op 14 .nil))))) .stop)) (.br 10 (.br 3 (.br 8 (.op 9 (.op 12 (.op 13 (.op 14 .nil)))) (.br 9 (.op 8 (.op 12 (.op 13 (.op 14 .nil)))) .stop)) (.br 9 (.op 3 (.op 8 (.op 12 (.op 13 (.op 14 .nil))))) .stop)) .stop))) (.br 9 (.br 1 (.br 3 (.br 8 (.op 10 (.op 12 (.op 13 (.op 14 .nil)))) (.br 10 (.op 8 (.op 12 (.op 13 (.op 14 .nil)))) .stop)) (.br 10 (.op 3 (.op 8 (.op 12 (.op 13 (.op 14 .nil))))) .stop)) (.br 10 (.op 1 (.op 3 (.op 8 (.op 12 (.op 13 (.op 14 .nil)))))) .stop)) (.br 10 (.br 1 (.br 3 (.br 8 (.op 9 (.op 12 (.op 13 (.op 14 .nil)))) (.br 9 (.op 8 (.op 12 (.op 13 (.op 14 .nil)))) .stop)) (.br 9 (.op 3 (.op 8 (.op 12 (.op 13 (.op 14 .nil))))) .stop)) (.br 9 (.op 1 (.op 3 (.op 8 (.op 12 (.op 13 (.op 14 .nil)))))) .stop)) .stop))) .stop))))))))))),(4,(.op 0 (.op 1 (.op 3 (.br 2 (.br 4 (.op 5 (.op 6 (.op 7 (.op 8 (.op 9 (.op 10 .nil)))))) (.br 8 (.op 4 (.op 5 (.op 6 (.op 7 (.op 9 (.op 10 .nil)))))) .stop)) (.br 8 (.op 2 (.op 4 (.op 5 (.op 6 (.op 7 (.op 9 (.op 10 .nil))))))) .stop)))))),(5,(.op 0 (.op 1 (.op 3 (.br 2 (.br 4 (.op 5 (.op 6 (.op 7 (.op 8 (.op 9 (.op 10 .nil)))))) (.br 8 (.op 4 (.op 5 (.op 6 (.op 7 (.op 9 (.op 10 .nil)))))) .stop)) (.br 8 (.op 2 (.op 4 (.op 5 (.op 6 (.op 7 (.op 9 (.op 10 .nil))))))) .stop)))))),(12,[0,2,1,3,4,5]),(13,(.op 0 (.op 1 (.op 2 (.op 3 (.op 5 (.op 6 (.op 7 (.op 8 (.br 4 (.br 9 (.br 10 (.op 11 (.op 12 (.op 13 .nil))) (.br 11 (.op 10 (.op 12 (.op 13 .nil))) .stop)) (.br 10 (.br 9 (.op 11 (.op 12 (.op 13 .nil))) (.br 11 (.op 9 (.op 12 (.op 13 .nil))) .stop)) (.br 11 (.br 9 (.op 10 (.op 12 (.op 13 .nil))) (.br 10 (.op 9 (.op 12 (.op 13 .nil))) .stop)) .stop))) (.br 10 (.br 4 (.br 9 (.op 11 (.op 12 (.op 13 .nil))) (.br 11 (.op 9 (.op 12 (.op 13 .nil))) .stop)) (.br 11 (.op 4 (.op 9 (.op 12 (.op 13 .nil)))) .stop)) (.br 11 (.br 4 (.br 9 (.op 10 (.op 12 (.op 13 .nil))) (.br 10 (.op 9 (.op 12 (.op 13 .nil))) .stop)) (.br 10 (.op 4 (.op 9 (.op 12 (.op 13 .nil)))) .stop)) .stop))))))))))))] } .nil 0 (by kernel_rfl) (fun P' E hP hE=>?_)
 cbv
 refine DrawTo.byU [(6,.p 5 0),(7,.p 6 0),(8,.p 7 0)] [.cells u.av 33,.cells v.av 33,.cells w.av 33] ?_ ?_
 ·cbv
  repeat' first
   | exact True.intro
   | (refine Both.mk ?_ ?_<;>cbv)
   | (refine CallTo.w hP hE ku ⟨rfl,trivial⟩ ?_; cbv)
   | (refine CallTo.w hP hE kv ⟨rfl,trivial⟩ ?_; cbv)
   | (refine CallTo.w hP hE kw ⟨rfl,rfl,trivial⟩ ?_; cbv)
   | (simp only [and_self]; done)
 cbv
 refine CallTo.w hP hE kd ⟨rfl,rfl,trivial⟩ ?_
 cbv
 refine sign_c hP hE (by assumption) (by omega) ?_
 intro m1 em1
 cbv
 refine fork.mk ?_ ?_
 ·intro g1
  cbv
  refine DrawTo.byU [(10,.p 9 0)] [.cells x.av 31] ?_ ?_
  ·cbv
   repeat' first
    | exact True.intro
    | (refine Both.mk ?_ ?_<;>cbv)
    | (refine CallTo.w hP hE kc1 ⟨rfl,rfl,trivial⟩ ?_; cbv)
    | (refine CallTo.w hP hE kx ⟨rfl,rfl,trivial⟩ ?_; cbv)
    | (simp only [and_self]; done)
  cbv
  refine DrawTo.byU [(12,.p 10 0)] [.cells y.av 31] ?_ ?_
  ·cbv
   repeat' first
    | exact True.intro
    | (refine Both.mk ?_ ?_<;>cbv)
    | (refine CallTo.w hP hE kc2 ⟨rfl,rfl,trivial⟩ ?_; cbv)
    | (refine CallTo.w hP hE ky ⟨rfl,rfl,trivial⟩ ?_; cbv)
    | (simp only [and_self]; done)
  cbv
  refine unit_c hP hE (by assumption) (by omega) ?_
  intro b1 eb1
  cbv
  refine fork.mk ?_ ?_
  ·intro g2
   cbv
   subst hE
   simp [std] at g1 g2
   have hm:meetQ S T=none:=by
    rw [meetQ,if_pos (by rw [<-em1]; exact g1),if_neg (by rw [<-eb1,g2]; simp)]
   rw [e0,e1,hm]
   show _=Value.tuple #[(crS Sq.zero).v,.bool false]
   rw [crS_zero]
  ·intro g2
   cbv
   refine unit_c hP hE (by assumption) (by omega) ?_
   intro b2 eb2
   cbv
   refine fork.mk ?_ ?_
   ·intro g3
    cbv
    subst hE
    simp [std] at g1 g2 g3
    have hm:meetQ S T=none:=by
     rw [meetQ,if_pos (by rw [<-em1]; exact g1),if_neg (by rw [<-eb2,g3]; simp)]
    rw [e0,e1,hm]
    show _=Value.tuple #[(crS Sq.zero).v,.bool false]
    rw [crS_zero]
   ·intro g3
    cbv
    refine vat_c hP hE (by assumption) (by assumption) (by assumption) (by omega) ?_
    intro p ep hp hpx hpy
    cbv
    subst hE
    simp [std] at g1 g2 g3
    have hm:meetQ S T=some ⟨S.a.at S.b (((T.a.sub S.a).cross (T.b.sub T.a)) / ((S.b.sub S.a).cross (T.b.sub T.a))),S.a.at S.b (((T.a.sub S.a).cross (T.b.sub T.a)) / ((S.b.sub S.a).cross (T.b.sub T.a)))⟩:=by
     rw [meetQ,if_pos (by rw [<-em1]; exact g1),if_pos (by rw [<-eb1,g2,<-eb2,g3]; simp)]
    rw [e0,e1,hm,ep]
    rfl
 ·intro g1
  cbv
  refine vcross_c hP hE (by assumption) (by assumption) (by omega) ?_
  intro c3 ec3 hc3
  cbv
  refine sign_c hP hE (by assumption) (by omega) ?_
  intro m2 em2
  cbv
  refine fork.mk ?_ ?_
  ·intro g2
   cbv
   subst hE
   simp [std] at g1 g2
   have hm:meetQ S T=none:=by
    rw [meetQ,if_neg (by rw [<-em1,g1]; simp),if_pos (by rw [<-em2]; exact g2)]
   rw [e0,e1,hm]
   show _=Value.tuple #[(crS Sq.zero).v,.bool false]
   rw [crS_zero]
  ·intro g2
   cbv
   refine CallTo.w hP hE kos ⟨rfl,trivial⟩ ?_
   cbv
   refine CallTo.w hP hE kot ⟨rfl,trivial⟩ ?_
   cbv
   refine DrawTo.byU [(15,.p 9 0),(16,.p 10 0)] [.cells a.av 33,.cells b.av 33] ?_ ?_
   ·cbv
    repeat' first
     | exact True.intro
     | (refine Both.mk ?_ ?_<;>cbv)
     | (refine CallTo.w hP hE ka ⟨rfl,rfl,trivial⟩ ?_; cbv)
     | (refine CallTo.w hP hE kb ⟨rfl,rfl,trivial⟩ ?_; cbv)
     | (simp only [and_self]; done)
   cbv
   refine vcmp_c hP hE (by assumption) (by assumption) (by omega) ?_
   intro m3 em3
   cbv
   refine fork.mk ?_ ?_
   ·intro g3
    cbv
    subst hE
    simp [std] at g1 g2 g3
    have hm:meetQ S T=none:=by
     rw [meetQ,if_neg (by rw [<-em1,g1]; simp),if_neg (by rw [<-em2,g2]; simp),if_pos (by rw [<-em3]; exact g3)]
    rw [e0,e1,hm]
    show _=Value.tuple #[(crS Sq.zero).v,.bool false]
    rw [crS_zero]
   ·intro g3
    cbv
    subst hE
    simp [std] at g1 g2 g3
    have hm:meetQ S T=some ⟨grP (ordS S).a (ordS T).a,lsP (ordS S).b (ordS T).b⟩:=by
     rw [meetQ,if_neg (by rw [<-em1,g1]; simp),if_neg (by rw [<-em2,g2]; simp),if_neg (by rw [<-em3]; omega)]
    rw [e0,e1,hm,ea,eb]
    rfl
theorem meet0_c {P':Program} {E:Env} (hP:P'=Tryz.prog) (hE:E=std) {hh:List Blk} {K:AV->List Blk->Prop} {an0 an1 an2 an3:Bool} {au0 ad0 au1 ad1 au2 ad2 au3 ad3:ByteArray} {S:Sq} {k:Nat} {bn0 bn1 bn2 bn3:Bool} {bu0 bd0 bu1 bd1 bu2 bd2 bu3 bd3:ByteArray} {T:Sq} (ha:IsS k ⟨⟨⟨an0,au0,ad0⟩,⟨an1,au1,ad1⟩⟩,⟨⟨an2,au2,ad2⟩,⟨an3,au3,ad3⟩⟩⟩ S) (hb:IsS k ⟨⟨⟨bn0,bu0,bd0⟩,⟨bn1,bu1,bd1⟩⟩,⟨⟨bn2,bu2,bd2⟩,⟨bn3,bu3,bd3⟩⟩⟩ T) (h:40*k+40<=134217728) (hk:∀ r0:Sg,r0=crS ((meetQ S T).getD Sq.zero)->IsS (20*k+20) r0 ((meetQ S T).getD Sq.zero)->r0.a=crP ((meetQ S T).getD Sq.zero).a->r0.b=crP ((meetQ S T).getD Sq.zero).b->IsP (20*k+20) r0.a ((meetQ S T).getD Sq.zero).a->IsP (20*k+20) r0.b ((meetQ S T).getD Sq.zero).b->Is (20*k+20) r0.a.x ((meetQ S T).getD Sq.zero).a.x->Is (20*k+20) r0.a.y ((meetQ S T).getD Sq.zero).a.y->Is (20*k+20) r0.b.x ((meetQ S T).getD Sq.zero).b.x->Is (20*k+20) r0.b.y ((meetQ S T).getD Sq.zero).b.y->∀ r1:Bool,r1=(meetQ S T).isSome->K (.v (.tuple #[r0.v,.bool r1])) hh):CallTo P' hh 268 [.v (.agg #[.bool an0,.string au0,.string ad0,.bool an1,.string au1,.string ad1,.bool an2,.string au2,.string ad2,.bool an3,.string au3,.string ad3]),.v (.agg #[.bool bn0,.string bu0,.string bd0,.bool bn1,.string bu1,.string bd1,.bool bn2,.string bu2,.string bd2,.bool bn3,.string bu3,.string bd3])] K:=by
 refine CallTo.con hP hE (meet0_q ha hb h) ⟨rfl,rfl,trivial⟩ ?_
 have:=hk _ rfl (ha.bd.meet hb.bd).is rfl rfl (ha.bd.meet hb.bd).is.a (ha.bd.meet hb.bd).is.b (ha.bd.meet hb.bd).is.a.x (ha.bd.meet hb.bd).is.a.y (ha.bd.meet hb.bd).is.b.x (ha.bd.meet hb.bd).is.b.y _ rfl
 simp only [outV,outW,List.append_nil]
 exact this
theorem smeet_q {a:Sg} {S:Sq} {k:Nat} {b:Sg} {T:Sq} (ha:IsS k a S) (hb:IsS k b T) (h:40*k+40<=134217728):Con Tryz.prog 196 [.v a.v,.v b.v] (.v (.tuple #[(crS (meetS S T)).v,.bool (meetB S T),.int .i64 (meetE S T)])):=by
 obtain ⟨⟨⟨an0,au0,ad0⟩,⟨an1,au1,ad1⟩⟩,⟨⟨an2,au2,ad2⟩,⟨an3,au3,ad3⟩⟩⟩:=a
 have haa:IsP k ⟨⟨an0,au0,ad0⟩,⟨an1,au1,ad1⟩⟩ S.a:=ha.a
 have hab:IsP k ⟨⟨an2,au2,ad2⟩,⟨an3,au3,ad3⟩⟩ S.b:=ha.b
 have haax:Is k ⟨an0,au0,ad0⟩ S.a.x:=ha.a.x
 have haay:Is k ⟨an1,au1,ad1⟩ S.a.y:=ha.a.y
 have habx:Is k ⟨an2,au2,ad2⟩ S.b.x:=ha.b.x
 have haby:Is k ⟨an3,au3,ad3⟩ S.b.y:=ha.b.y
 obtain ⟨⟨⟨bn0,bu0,bd0⟩,⟨bn1,bu1,bd1⟩⟩,⟨⟨bn2,bu2,bd2⟩,⟨bn3,bu3,bd3⟩⟩⟩:=b
 have hba:IsP k ⟨⟨bn0,bu0,bd0⟩,⟨bn1,bu1,bd1⟩⟩ T.a:=hb.a
 have hbb:IsP k ⟨⟨bn2,bu2,bd2⟩,⟨bn3,bu3,bd3⟩⟩ T.b:=hb.b
 have hbax:Is k ⟨bn0,bu0,bd0⟩ T.a.x:=hb.a.x
 have hbay:Is k ⟨bn1,bu1,bd1⟩ T.a.y:=hb.a.y
 have hbbx:Is k ⟨bn2,bu2,bd2⟩ T.b.x:=hb.b.x
 have hbby:Is k ⟨bn3,bu3,bd3⟩ T.b.y:=hb.b.y
 obtain ⟨r0,e0⟩:∃ r,r=crS (meetS S T):=⟨_,rfl⟩
 rw [<-e0]
 obtain ⟨r1,e1⟩:∃ r,r=meetB S T:=⟨_,rfl⟩
 rw [<-e1]
 obtain ⟨r2,e2⟩:∃ r,r=meetE S T:=⟨_,rfl⟩
 rw [<-e2]
 refine Con.of ttOk mixed Tryz.func196 {} .nil 0 (by kernel_rfl) (fun P' E hP hE=>?_)
 cbv
 refine wrong_c hP hE (by assumption) (by assumption) (by omega) ?_
 intro b1 eb1
 cbv
 refine fork.mk ?_ ?_
 ·intro g1
  cbv
  subst hE
  have hm:wrongQ S T=true:=eb1.symm.trans g1
  rw [e0,e1,e2,meetS,meetB,meetE,if_pos hm,if_pos hm,if_pos hm,crS_zero]
 ·intro g1
  cbv
  refine meet0_c hP hE (by assumption) (by assumption) (by omega) ?_
  intro m em hm ema emb hma hmb hmax hmay hmbx hmby b2 eb2
  cbv
  subst hE
  have hm:¬ wrongQ S T=true:=by rw [<-eb1,g1]; simp
  rw [e0,e1,e2,meetS,meetB,meetE,if_neg hm,if_neg hm,if_neg hm,em,eb2]
theorem smeet_p {a:Sg} {S:Sq} {k:Nat} {b:Sg} {T:Sq} (ha:IsS k a S) (hb:IsS k b T) (h:40*k+40<=134217728):∃ (r0:Sg) (r1:Bool) (r2:Int),r0=crS (meetS S T)/\IsS (20*k+20) r0 (meetS S T)/\r1=meetB S T/\r2=meetE S T/\Con Tryz.prog 196 [.v a.v,.v b.v] (.v (.tuple #[r0.v,.bool r1,.int .i64 r2])):=⟨_,_,_,rfl,(ha.bd.meetS hb.bd).is,rfl,rfl,smeet_q ha hb h⟩
theorem str_eq (a b:ByteArray):(a.toList == b.toList)=decide (a=b):=sq_iff
theorem str_iff (a b:ByteArray):(a.toList == b.toList)=true ↔ a=b:=by rw [str_eq]; simp
/-- '==' of two numbers, points, segments. -/
theorem eqc_R (p q:R):eqCells p.c q.c=true ↔ p=q:=by
 obtain ⟨a,b,c⟩:=p
 obtain ⟨a',b',c'⟩:=q
 simp [eqCells,str_iff,-beq_iff_eq]
 simp
theorem eqc_P (p q:Pt):eqCells p.c q.c=true ↔ p=q:=by
 obtain ⟨⟨a,b,c⟩,⟨d,e,f⟩⟩:=p
 obtain ⟨⟨a',b',c'⟩,⟨d',e',f'⟩⟩:=q
 simp [eqCells,str_iff,-beq_iff_eq,and_assoc]
 simp
theorem bd_int {n:Int} (h : -9223372036854775808<=n/\n < 9223372036854775808):Bd 8 (n:Rat):=Bd.int (by
 have:(256:Nat) ^ 8=18446744073709551616:=by decide
 omega) (by decide)
end Go.Proofs.YtkipmmiiackdaaaGreat.Sx
