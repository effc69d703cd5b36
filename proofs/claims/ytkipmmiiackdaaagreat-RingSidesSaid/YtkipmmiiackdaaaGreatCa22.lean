/- Part 22 of what the statement needs: an executor of Go texts, arithmetic, and contracts of the functions that are called. -/
import Derived.Test.YtkipmmiiackdaaaGreatCa21
set_option linter.unusedSimpArgs false
set_option linter.unusedVariables false
set_option maxHeartbeats 8000000
set_option maxRecDepth 100000
namespace Go.Proofs.YtkipmmiiackdaaaGreat.Sx
open Env (std)
theorem sord_q {a:Sg} {S:Sq} {k:Nat} (ha:IsS k a S) (h:2*k+1<=134217728):Con Tryz.prog 251 [.v a.v] (.v ((crS (ordS S)).v)):=by
 obtain ⟨⟨⟨an0,au0,ad0⟩,⟨an1,au1,ad1⟩⟩,⟨⟨an2,au2,ad2⟩,⟨an3,au3,ad3⟩⟩⟩:=a
 have haa:IsP k ⟨⟨an0,au0,ad0⟩,⟨an1,au1,ad1⟩⟩ S.a:=ha.a
 have hab:IsP k ⟨⟨an2,au2,ad2⟩,⟨an3,au3,ad3⟩⟩ S.b:=ha.b
 have haax:Is k ⟨an0,au0,ad0⟩ S.a.x:=ha.a.x
 have haay:Is k ⟨an1,au1,ad1⟩ S.a.y:=ha.a.y
 have habx:Is k ⟨an2,au2,ad2⟩ S.b.x:=ha.b.x
 have haby:Is k ⟨an3,au3,ad3⟩ S.b.y:=ha.b.y
 obtain ⟨r0,e0⟩:∃ r,r=crS (ordS S):=⟨_,rfl⟩
 rw [<-e0]
 have k1:=canon_q haa (by omega)
 have k2:=canon_q hab (by omega)
 obtain ⟨c1,ec1⟩:∃ c,c=crP S.a:=⟨_,rfl⟩
 obtain ⟨c2,ec2⟩:∃ c,c=crP S.b:=⟨_,rfl⟩
 have hc1:IsP k c1 S.a:=by rw [ec1]; exact haa.b.is
 have hc2:IsP k c2 S.b:=by rw [ec2]; exact hab.b.is
 rw [<-ec1] at k1
 rw [<-ec2] at k2
 refine Con.of ttOk mixed Tryz.func251 { ord:=[(1,(.op 0 (.op 1 (.op 3 (.op 4 (.br 2 (.br 5 (.br 6 (.op 7 (.op 8 (.op 9 .nil))) (.br 7 (.op 6 (.op 8 (.op 9 .nil))) .stop)) (.br 6 (.br 5 (.op 7 (.op 8 (.op 9 .nil))) (.br 7 (.op 5 (.op 8 (.op 9 .nil))) .stop)) (.br 7 (.br 5 (.op 6 (.op 8 (.op 9 .nil))) (.br 6 (.op 5 (.op 8 (.op 9 .nil))) .stop)) .stop))) (.br 6 (.br 2 (.br 5 (.op 7 (.op 8 (.op 9 .nil))) (.br 7 (.op 5 (.op 8 (.op 9 .nil))) .stop)) (.br 7 (.op 2 (.op 5 (.op 8 (.op 9 .nil)))) .stop)) (.br 7 (.br 2 (.br 5 (.op 6 (.op 8 (.op 9 .nil))) (.br 6 (.op 5 (.op 8 (.op 9 .nil))) .stop)) (.br 6 (.op 2 (.op 5 (.op 8 (.op 9 .nil)))) .stop)) .stop))))))))] } .nil 0 (by kernel_rfl) (fun P' E hP hE=>?_)
 cbv
 refine DrawTo.byU [(3,.p 3 0),(4,.p 4 0)] [.cells c1.av 33,.cells c2.av 33] ?_ ?_
 ·cbv
  repeat' first
   | exact True.intro
   | (refine Both.mk ?_ ?_<;>cbv)
   | (refine CallTo.w hP hE k1 ⟨rfl,trivial⟩ ?_; cbv)
   | (refine CallTo.w hP hE k2 ⟨rfl,trivial⟩ ?_; cbv)
   | (simp only [and_self]; done)
 ·cbv
  refine vcmp_c hP hE (by assumption) (by assumption) (by omega) ?_
  intro m1 em1
  cbv
  refine fork.mk ?_ ?_
  ·intro g1
   cbv
   subst hE
   simp [std] at g1
   rw [e0,ordS,if_pos (by rw [<-em1]; exact g1),ec1,ec2]; rfl
  ·intro g1
   cbv
   subst hE
   simp [std] at g1
   rw [e0,ordS,if_neg (by rw [<-em1]; omega),ec1,ec2]; rfl
theorem sord_p {a:Sg} {S:Sq} {k:Nat} (ha:IsS k a S) (h:2*k+1<=134217728):∃ (r0:Sg),r0=crS (ordS S)/\IsS (k) r0 (ordS S)/\Con Tryz.prog 251 [.v a.v] (.v (r0.v)):=⟨_,rfl,(ha.bd.ord).is,sord_q ha h⟩
theorem meet0_q {a:Sg} {S:Sq} {k:Nat} {b:Sg} {T:Sq} (ha:IsS k a S) (hb:IsS k b T) (h:40*k+40<=134217728):Con Tryz.prog 268 [.v a.v,.v b.v] (.v (.tuple #[(crS ((meetQ S T).getD Sq.zero)).v,.bool ((meetQ S T).isSome)])):=by
 obtain ⟨⟨⟨an0,au0,ad0⟩,⟨an1,au1,ad1⟩⟩,⟨⟨an2,au2,ad2⟩,⟨an3,au3,ad3⟩⟩⟩:=a
 have haa:IsP k ⟨⟨an0,au0,ad0⟩,⟨an1,au1,ad1⟩⟩ S.a:=ha.a
 have hab:IsP k ⟨⟨an2,au2,ad2⟩,⟨an3,au3,ad3⟩⟩ S.b:=ha.b
 have haax:Is k ⟨an0,au0,ad0⟩ S.a.x:=ha.a.x
 have haay:Is k ⟨an1,au1,ad1⟩ S.a.y:=ha.a.y
 have habx:Is k ⟨an2,au2,ad2⟩ S.b.x:=ha.b.x
 have haby:Is k ⟨an3,au3,ad3⟩ S.b.y:=ha.b.y
 obtain ⟨⟨⟨bn0,bu0,bd0⟩,⟨bn1,bu1,bd1⟩⟩,⟨⟨bn2,bu2,bd2⟩,⟨bn3,bu3,bd3⟩⟩⟩:=b
 have hba:IsP k ⟨⟨bn0,bu0,bd0⟩,⟨bn1,bu1,bd1⟩⟩ T.a:=hb.a
 have hbb:IsP k ⟨⟨bn2,bu2,bd2⟩,⟨bn3,bu3,bd3⟩⟩ T.b:=hb.b
 have hbax:Is k ⟨bn0,bu0,bd0⟩ T.a.x:=hb.a.x
 have hbay:Is k ⟨bn1,bu1,bd1⟩ T.a.y:=hb.a.y
 have hbbx:Is k ⟨bn2,bu2,bd2⟩ T.b.x:=hb.b.x
 have hbby:Is k ⟨bn3,bu3,bd3⟩ T.b.y:=hb.b.y
 obtain ⟨r0,e0⟩:∃ r,r=crS ((meetQ S T).getD Sq.zero):=⟨_,rfl⟩
 rw [<-e0]
 obtain ⟨r1,e1⟩:∃ r,r=(meetQ S T).isSome:=⟨_,rfl⟩
 rw [<-e1]
 have hz:=IsP.zero
 obtain ⟨u,eu,hu,ku⟩:=sdir_p ha (by omega)
 obtain ⟨v,ev,hv,kv⟩:=sdir_p hb (by omega)
 obtain ⟨w,ew,hw,kw⟩:=vsub_p hba haa (by omega)
 obtain ⟨d,ed,hd,kd⟩:=vcross_p hu hv (by omega)
 obtain ⟨c1,ec1,hc1,kc1⟩:=vcross_p hw hv (by omega)
 obtain ⟨x,xe,ex,hx,exe,kx⟩:=quo_p hc1 hd (by omega)
 obtain ⟨c2,ec2,hc2,kc2⟩:=vcross_p hw hu (by omega)
 obtain ⟨y,ye,ey,hy,eye,ky⟩:=quo_p hc2 hd (by omega)
 obtain ⟨os,eos,hos,kos⟩:=sord_p ha (by omega)
 obtain ⟨ot,eot,hot,kot⟩:=sord_p hb (by omega)
 obtain ⟨a,ea,ha1,ka⟩:=grt_p hos.a (by rw [eos]; rfl) hot.a (by rw [eot]; rfl) (by omega)
 obtain ⟨b,eb,hb1,kb⟩:=les_p hos.b (by rw [eos]; rfl) hot.b (by rw [eot]; rfl) (by omega)
 refine Con.of ttOk mixed Tryz.func268 { ord:=[(1,(.op 0 (.op 2 (.op 4 (.op 5 (.op 6 (.op 7 (.br 1 (.br 3 (.br 8 (.br 9 (.br 10 (.op 11 (.op 12 (.op 13 (.op 14 .nil)))) (.br 11 (.op 10 (.op 12 (.op 13 (.op 14 .nil)))) .stop)) (.br 10 (.br 9 (.op 11 (.op 12 (.op 13 (.op 14 .nil)))) (.br 11 (.op 9 (.op 12 (.op 13 (.op 14 .nil)))) .stop)) (.br 11 (.br 9 (.op 10 (.op 12 (.op 13 (.op 14 .nil)))) (.br 10 (.op 9 (.op 12 (.op 13 (.op 14 .nil)))) .stop)) .stop))) (.br 9 (.br 8 (.br 10 (.op 11 (.op 12 (.op 13 (.op 14 .nil)))) (.br 11 (.op 10 (.op 12 (.op 13 (.op 14 .nil)))) .stop)) (.br 10 (.br 8 (.op 11 (.op 12 (.op 13 (.op 14 .nil)))) (.br 11 (.op 8 (.op 12 (.op 13 (.op 14 .nil)))) .stop)) (.br 11 (.br 8 (.op 10 (.op 12 (.op 13 (.op 14 .nil)))) (.br 10 (.op 8 (.op 12 (.op 13 (.op 14 .nil)))) .stop)) .stop))) (.br 10 (.br 8 (.br 9 (.op 11 (.op 12 (.op 13 (.op 14 .nil)))) (.br 11 (.op 9 (.op 12 (.op 13 (.op 14 .nil)))) .stop)) (.br 9 (.br 8 (.op 11 (.op 12 (.op 13 (.op 14 .nil)))) (.br 11 (.op 8 (.op 12 (.op 13 (.op 14 .nil)))) .stop)) (.br 11 (.br 8 (.op 9 (.op 12 (.op 13 (.op 14 .nil)))) (.br 9 (.op 8 (.op 12 (.op 13 (.op 14 .nil)))) .stop)) .stop))) (.br 11 (.br 8 (.br 9 (.op 10 (.op 12 (.op 13 (.op 14 .nil)))) (.br 10 (.op 9 (.op 12 (.op 13 (.op 14 .nil)))) .stop)) (.br 9 (.br 8 (.op 10 (.op 12 (.op 13 (.op 14 .nil)))) (.br 10 (.op 8 (.op 12 (.op 13 (.op 14 .nil)))) .stop)) (.br 10 (.br 8 (.op 9 (.op 12 (.op 13 (.op 14 .nil)))) (.br 9 (.op 8 (.op 12 (.op 13 (.op 14 .nil)))) .stop)) .stop))) .stop)))) (.br 9 (.br 3 (.br 8 (.br 10 (.op 11 (.op 12 (.op 13 (.op 14 .nil)))) (.br 11 (.op 10 (.op 12 (.op 13 (.op 14 .nil)))) .stop)) (.br 10 (.br 8 (.op 11 (.op 12 (.op 13 (.op 14 .nil)))) (.br 11 (.op 8 (.op 12 (.op 13 (.op 14 .nil)))) .stop)) (.br 11 (.br 8 (.op 10 (.op 12 (.op 13 (.op 14 .nil)))) (.br 10 (.op 8 (.op 12 (.op 13 (.op 14 .nil)))) .stop)) .stop))) (.br 10 (.br 3 (.br 8 (.op 11 (.op 12 (.op 13 (.op 14 .nil)))) (.br 11 (.op 8 (.op 12 (.op 13 (.op 14 .nil)))) .stop)) (.br 11 (.op 3 (.op 8 (.op 12 (.op 13 (.op 14 .nil))))) .stop)) (.br 11 (.br 3 (.br 8 (.op 10 (.op 12 (.op 13 (.op 14 .nil)))) (.br 10 (.op 8 (.op 12 (.op 13 (.op 14 .nil)))) .stop)) (.br 10 (.op 3 (.op 8 (.op 12 (.op 13 (.op 14 .nil))))) .stop)) .stop))) (.br 10 (.br 3 (.br 8 (.br 9 (.op 11 (.op 12 (.op 13 (.op 14 .nil)))) (.br 11 (.op 9 (.op 12 (.op 13 (.op 14 .nil)))) .stop)) (.br 9 (.br 8 (.op 11 (.op 12 (.op 13 (.op 14 .nil)))) (.br 11 (.op 8 (.op 12 (.op 13 (.op 14 .nil)))) .stop)) (.br 11 (.br 8 (.op 9 (.op 12 (.op 13 (.op 14 .nil)))) (.br 9 (.op 8 (.op 12 (.op 13 (.op 14 .nil)))) .stop)) .stop))) (.br 9 (.br 3 (.br 8 (.op 11 (.op 12 (.op 13 (.op 14 .nil)))) (.br 11 (.op 8 (.op 12 (.op 13 (.op 14 .nil)))) .stop)) (.br 11 (.op 3 (.op 8 (.op 12 (.op 13 (.op 14 .nil))))) .stop)) (.br 11 (.br 3 (.br 8 (.op 9 (.op 12 (.op 13 (.op 14 .nil)))) (.br 9 (.op 8 (.op 12 (.op 13 (.op 14 .nil)))) .stop)) (.br 9 (.op 3 (.op 8 (.op 12 (.op 13 (.op 14 .nil))))) .stop)) .stop))) (.br 11 (.br 3 (.br 8 (.br 9 (.op 10 (.op 12 (.op 13 (.op 14 .nil)))) (.br 10 (.op 9 (.op 12 (.op 13 (.op 14 .nil)))) .stop)) (.br 9 (.br 8 (.op 10 (.op 12 (.op 13 (.op 14 .nil)))) (.br 10 (.op 8 (.op 12 (.op 13 (.op 14 .nil)))) .stop)) (.br 10 (.br 8 (.op 9 (.op 12 (.op 13 (.op 14 .nil)))) (.br 9 (.op 8 (.op 12 (.op 13 (.op 14 .nil)))) .stop)) .stop))) (.br 9 (.br 3 (.br 8 (.op 10 (.op 12 (.op 13 (.op 14 .nil)))) (.br 10 (.op 8 (.op 12 (.op 13 (.op 14 .nil)))) .stop)) (.br 10 (.op 3 (.op 8 (.op 12 (.op 13 (.op 14 .nil))))) .stop)) (.br 10 (.br 3 (.br 8 (.op 9 (.op 12 (.op 13 (.op 14 .nil)))) (.br 9 (.op 8 (.op 12 (.op 13 (.op 14 .nil)))) .stop)) (.br 9 (.op 3 (.op 8 (.op 12 (.op 13 (.op 14 .nil))))) .stop)) .stop))) .stop)))) (.br 9 (.br 1 (.br 3 (.br 8 (.br 10 (.op 11 (.op 12 (.op 13 (.op 14 .nil)))) (.br 11 (.op 10 (.op 12 (.op 13 (.op 14 .nil)))) .stop)) (.br 10 (.br 8 (.op 11 (.op 12 (.op 13 (.op 14 .nil)))) (.br 11 (.op 8 (.op 12 (.op 13 (.op 14 .nil)))) .stop)) (.br 11 (.br 8 (.op 10 (.op 12 (.op 13 (.op 14 .nil)))) (.br 10 (.op 8 (.op 12 (.op 13 (.op 14 .nil)))) .stop)) .stop))) (.br 10 (.br 3 (.br 8 (.op 11 (.op 12 (.op 13 (.op 14 .nil)))) (.br 11 (.op 8 (.op 12 (.op 13 (.op 14 .nil)))) .stop)) (.br 11 (.op 3 (.op 8 (.op 12 (.op 13 (.op 14 .nil))))) .stop)) (.br 11 (.br 3 (.br 8 (.op 10 (.op 12 (.op 13 (.op 14 .nil)))) (.br 10 (.op 8 (.op 12 (.op 13 (.op 14 .nil)))) .stop)) (.br 10 (.op 3 (.op 8 (.op 12 (.op 13 (.op 14 .nil))))) .stop)) .stop))) (.br 10 (.br 1 (.br 3 (.br 8 (.op 11 (.op 12 (.op 13 (.op 14 .nil)))) (.br 11 (.op 8 (.op 12 (.op 13 (.op 14 .nil)))) .stop)) (.br 11 (.op 3 (.op 8 (.op 12 (.op 13 (.op 14 .nil))))) .stop)) (.br 11 (.op 1 (.op 3 (.op 8 (.op 12 (.op 13 (.op 14 .nil)))))) .stop)) (.br 11 (.br 1 (.br 3 (.br 8 (.op 10 (.op 12 (.op 13 (.op 14 .nil)))) (.br 10 (.op 8 (.op 12 (.op 13 (.op 14 .nil)))) .stop)) (.br 10 (.op 3 (.op 8 (.op 12 (.op 13 (.op 14 .nil))))) .stop)) (.br 10 (.op 1 (.op 3 (.op 8 (.op 12 (.op 13 (.op 14 .nil)))))) .stop)) .stop))) (.br 10 (.br 1 (.br 3 (.br 8 (.br 9 (.op 11 (.op 12 (.op 13 (.op 14 .nil)))) (.br 11 (.op 9 (.op 12 (.op 13 (.op 14 .nil)))) .stop)) (.br 9 (.br 8 (.op 11 (.op 12 (.op 13 (.op 14 .nil)))) (.br 11 (.op 8 (.op 12 (.op 13 (.op 14 .nil)))) .stop)) (.br 11 (.br 8 (.op 9 (.op 12 (.op 13 (.op 14 .nil)))) (.br 9 (.op 8 (.op 12 (.op 13 (.op 14 .nil)))) .stop)) .stop))) (.br 9 (.br 3 (.br 8 (.op 11 (.op 12 (.op 13 (.op 14 .nil)))) (.br 11 (.op 8 (.op 12 (.op 13 (.op 14 .nil)))) .stop)) (.br 11 (.op 3 (.op 8 (.op 12 (.op 13 (.op 14 .nil))))) .stop)) (.br 11 (.br 3 (.br 8 (.op 9 (.op 12 (.op 13 (.op 14 .nil)))) (.br 9 (.op 8 (.op 12 (.op 13 (.op 14 .nil)))) .stop)) (.br 9 (.op 3 (.op 8 (.op 12 (.op 13 (.op 14 .nil))))) .stop)) .stop))) (.br 9 (.br 1 (.br 3 (.br 8 (.op 11 (.op 12 (.op 13 (.op 14 .nil)))) (.br 11 (.op 8 (.op 12 (.op 13 (.op 14 .nil)))) .stop)) (.br 11 (.op 3 (.op 8 (.op 12 (.op 13 (.op 14 .nil))))) .stop)) (.br 11 (.op 1 (.op 3 (.op 8 (.op 12 (.op 13 (.op 14 .nil)))))) .stop)) (.br 11 (.br 1 (.br 3 (.br 8 (.op 9 (.op 12 (.op 13 (.op 14 .nil)))) (.br 9 (.op 8 (.op 12 (.op 13 (.op 14 .nil)))) .stop)) (.br 9 (.op 3 (.op 8 (.op 12 (.op 13 (.op 14 .nil))))) .stop)) (.br 9 (.op 1 (.op 3 (.op 8 (.op 12 (.op 13 (.op 14 .nil)))))) .stop)) .stop))) (.br 11 (.br 1 (.br 3 (.br 8 (.br 9 (.op 10 (.op 12 (.op 13 (.op 14 .nil)))) (.br 10 (.op 9 (.op 12 (.op 13 (.op 14 .nil)))) .stop)) (.br 9 (.br 8 (.op 10 (.op 12 (.op 13 (.op 14 .nil)))) (.br 10 (.op 8 (.op 12 (.op 13 (.op 14 .nil)))) .stop)) (.br 10 (.br 8 (.op 9 (.op 12 (.op 13 (.op 14 .nil)))) (.br 9 (.op 8 (.op 12 (.op 13 (.op 14 .nil)))) .stop)) .stop))) (.br 9 (.br 3 (.br 8 (.op 10 (.op 12 (.op 13 (.op 14 .nil)))) (.br 10 (.op 8 (.op 12 (.op 13 (.op 14 .nil)))) .stop)) (.br 10 (.op 3 (.op 8 (.op 12 (.op 13 (.op 14 .nil))))) .stop)) (.br 10 (.br 3 (.br 8 (.op 9 (.op 12 (.op 13 (.op 14 .nil)))) (.br 9 (.op 8 (.op 12 (.op 13 (.op 14 .nil)))) .stop)) (.br 9 (.op 3 (.op 8 (.op 12 (.op 13 (.op 14 .nil))))) .stop)) .stop))) (.br 9 (.br 1 (.br 3 (.br 8 (.op 10 (.op 12 (.op 13 (.op 14 .nil)))) (.br 10 (.op 8 (.op 12 (.op 13 (.op 14 .nil)))) .stop)) (.br 10 (.op 3 (.op 8 (.op 12 (.op 13 (.op 14 .nil))))) .stop)) (.br 10 (.op 1 (.op 3 (.op 8 (.op 12 (.op 13 (.op 14 .nil)))))) .stop)) (.br 10 (.br 1 (.br 3 (.br 8 (.op 9 (.op 12 (.op 13 (.op 14 .nil)))) (.br 9 (.op 8 (.op 12 (.op 13 (.op 14 .nil)))) .stop)) (.br 9 (.op 3 (.op 8 (.op 12 (.op 13 (.op 14 .nil))))) .stop)) (.br 9 (.op 1 (.op 3 (.op 8 (.op 12 (.op 13 (.op 14 .nil)))))) .stop)) .stop))) .stop))))))))))),(4,(.op 0 (.op 1 (.op 3 (.br 2 (.br 4 (.op 5 (.op 6 (.op 7 (.op 8 (.op 9 (.op 10 .nil)))))) (.br 8 (.op 4 (.op 5 (.op 6 (.op 7 (.op 9 (.op 10 .nil)))))) .stop)) (.br 8 (.op 2 (.op 4 (.op 5 (.op 6 (.op 7 (.op 9 (.op 10 .nil))))))) .stop)))))),(5,(.op 0 (.op 1 (.op 3 (.br 2 (.br 4 (.op 5 (.op 6 (.op 7 (.op 8 (.op 9 (.op 10 .nil)))))) (.br 8 (.op 4 (.op 5 (.op 6 (.op 7 (.op 9 (.op 10 .nil)))))) .stop)) (.br 8 (.op 2 (.op 4 (.op 5 (.op 6 (.op 7 (.op 9 (.op 10 .nil))))))) .stop)))))),(12,[0,2,1,3,4,5]),(13,(.op 0 (.op 1 (.op 2 (.op 3 (.op 5 (.op 6 (.op 7 (.op 8 (.br 4 (.br 9 (.br 10 (.op 11 (.op 12 (.op 13 .nil))) (.br 11 (.op 10 (.op 12 (.op 13 .nil))) .stop)) (.br 10 (.br 9 (.op 11 (.op 12 (.op 13 .nil))) (.br 11 (.op 9 (.op 12 (.op 13 .nil))) .stop)) (.br 11 (.br 9 (.op 10 (.op 12 (.op 13 .nil))) (.br 10 (.op 9 (.op 12 (.op 13 .nil))) .stop)) .stop))) (.br 10 (.br 4 (.br 9 (.op 11 (.op 12 (.op 13 .nil))) (.br 11 (.op 9 (.op 12 (.op 13 .nil))) .stop)) (.br 11 (.op 4 (.op 9 (.op 12 (.op 13 .nil)))) .stop)) (.br 11 (.br 4 (.br 9 (.op 10 (.op 12 (.op 13 .nil))) (.br 10 (.op 9 (.op 12 (.op 13 .nil))) .stop)) (.br 10 (.op 4 (.op 9 (.op 12 (.op 13 .nil)))) .stop)) .stop))))))))))))] } .nil 0 (by kernel_rfl) (fun P' E hP hE=>?_)
 cbv
 refine DrawTo.byU [(6,.p 5 0),(7,.p 6 0),(8,.p 7 0)] [.cells u.av 33,.cells v.av 33,.cells w.av 33] ?_ ?_
 ·cbv
  repeat' first
   | exact True.intro
   | (refine Both.mk ?_ ?_<;>cbv)
   | (refine CallTo.w hP hE ku ⟨rfl,trivial⟩ ?_; cbv)
   | (refine CallTo.w hP hE kv ⟨rfl,trivial⟩ ?_; cbv)
   | (refine CallTo.w hP hE kw ⟨rfl,rfl,trivial⟩ ?_; cbv)
   | (simp only [and_self]; done)
 cbv
 refine CallTo.w hP hE kd ⟨rfl,rfl,trivial⟩ ?_
 cbv
 refine sign_c hP hE (by assumption) (by omega) ?_
 intro m1 em1
 cbv
 refine fork.mk ?_ ?_
 ·intro g1
  cbv
  refine DrawTo.byU [(10,.p 9 0)] [.cells x.av 31] ?_ ?_
  ·cbv
   repeat' first
    | exact True.intro
    | (refine Both.mk ?_ ?_<;>cbv)
    | (refine CallTo.w hP hE kc1 ⟨rfl,rfl,trivial⟩ ?_; cbv)
    | (refine CallTo.w hP hE kx ⟨rfl,rfl,trivial⟩ ?_; cbv)
    | (simp only [and_self]; done)
  cbv
  refine DrawTo.byU [(12,.p 10 0)] [.cells y.av 31] ?_ ?_
  ·cbv
   repeat' first
    | exact True.intro
    | (refine Both.mk ?_ ?_<;>cbv)
    | (refine CallTo.w hP hE kc2 ⟨rfl,rfl,trivial⟩ ?_; cbv)
    | (refine CallTo.w hP hE ky ⟨rfl,rfl,trivial⟩ ?_; cbv)
    | (simp only [and_self]; done)
  cbv
  refine unit_c hP hE (by assumption) (by omega) ?_
  intro b1 eb1
  cbv
  refine fork.mk ?_ ?_
  ·intro g2
   cbv
   subst hE
   simp [std] at g1 g2
   have hm:meetQ S T=none:=by
    rw [meetQ,if_pos (by rw [<-em1]; exact g1),if_neg (by rw [<-eb1,g2]; simp)]
   rw [e0,e1,hm]
   show _=Value.tuple #[(crS Sq.zero).v,.bool false]
   rw [crS_zero]
  ·intro g2
   cbv
   refine unit_c hP hE (by assumption) (by omega) ?_
   intro b2 eb2
   cbv
   refine fork.mk ?_ ?_
   ·intro g3
    cbv
    subst hE
    simp [std] at g1 g2 g3
    have hm:meetQ S T=none:=by
     rw [meetQ,if_pos (by rw [<-em1]; exact g1),if_neg (by rw [<-eb2,g3]; simp)]
    rw [e0,e1,hm]
    show _=Value.tuple #[(crS Sq.zero).v,.bool false]
    rw [crS_zero]
   ·intro g3
    cbv
    refine vat_c hP hE (by assumption) (by assumption) (by assumption) (by omega) ?_
    intro p ep hp hpx hpy
    cbv
    subst hE
    simp [std] at g1 g2 g3
    have hm:meetQ S T=some ⟨S.a.at S.b (((T.a.sub S.a).cross (T.b.sub T.a)) / ((S.b.sub S.a).cross (T.b.sub T.a))),S.a.at S.b (((T.a.sub S.a).cross (T.b.sub T.a)) / ((S.b.sub S.a).cross (T.b.sub T.a)))⟩:=by
     rw [meetQ,if_pos (by rw [<-em1]; exact g1),if_pos (by rw [<-eb1,g2,<-eb2,g3]; simp)]
    rw [e0,e1,hm,ep]
    rfl
 ·intro g1
  cbv
  refine vcross_c hP hE (by assumption) (by assumption) (by omega) ?_
  intro c3 ec3 hc3
  cbv
  refine sign_c hP hE (by assumption) (by omega) ?_
  intro m2 em2
  cbv
  refine fork.mk ?_ ?_
  ·intro g2
   cbv
   subst hE
   simp [std] at g1 g2
   have hm:meetQ S T=none:=by
    rw [meetQ,if_neg (by rw [<-em1,g1]; simp),if_pos (by rw [<-em2]; exact g2)]
   rw [e0,e1,hm]
   show _=Value.tuple #[(crS Sq.zero).v,.bool false]
   rw [crS_zero]
  ·intro g2
   cbv
   refine CallTo.w hP hE kos ⟨rfl,trivial⟩ ?_
   cbv
   refine CallTo.w hP hE kot ⟨rfl,trivial⟩ ?_
   cbv
   refine DrawTo.byU [(15,.p 9 0),(16,.p 10 0)] [.cells a.av 33,.cells b.av 33] ?_ ?_
   ·cbv
    repeat' first
     | exact True.intro
     | (refine Both.mk ?_ ?_<;>cbv)
     | (refine CallTo.w hP hE ka ⟨rfl,rfl,trivial⟩ ?_; cbv)
     | (refine CallTo.w hP hE kb ⟨rfl,rfl,trivial⟩ ?_; cbv)
     | (simp only [and_self]; done)
   cbv
   refine vcmp_c hP hE (by assumption) (by assumption) (by omega) ?_
   intro m3 em3
   cbv
   refine fork.mk ?_ ?_
   ·intro g3
    cbv
    subst hE
    simp [std] at g1 g2 g3
    have hm:meetQ S T=none:=by
     rw [meetQ,if_neg (by rw [<-em1,g1]; simp),if_neg (by rw [<-em2,g2]; simp),if_pos (by rw [<-em3]; exact g3)]
    rw [e0,e1,hm]
    show _=Value.tuple #[(crS Sq.zero).v,.bool false]
    rw [crS_zero]
   ·intro g3
    cbv
    subst hE
    simp [std] at g1 g2 g3
    have hm:meetQ S T=some ⟨grP (ordS S).a (ordS T).a,lsP (ordS S).b (ordS T).b⟩:=by
     rw [meetQ,if_neg (by rw [<-em1,g1]; simp),if_neg (by rw [<-em2,g2]; simp),if_neg (by rw [<-em3]; omega)]
    rw [e0,e1,hm,ea,eb]
    rfl
theorem meet0_c {P':Program} {E:Env} (hP:P'=Tryz.prog) (hE:E=std) {hh:List Blk} {K:AV->List Blk->Prop} {an0 an1 an2 an3:Bool} {au0 ad0 au1 ad1 au2 ad2 au3 ad3:ByteArray} {S:Sq} {k:Nat} {bn0 bn1 bn2 bn3:Bool} {bu0 bd0 bu1 bd1 bu2 bd2 bu3 bd3:ByteArray} {T:Sq} (ha:IsS k ⟨⟨⟨an0,au0,ad0⟩,⟨an1,au1,ad1⟩⟩,⟨⟨an2,au2,ad2⟩,⟨an3,au3,ad3⟩⟩⟩ S) (hb:IsS k ⟨⟨⟨bn0,bu0,bd0⟩,⟨bn1,bu1,bd1⟩⟩,⟨⟨bn2,bu2,bd2⟩,⟨bn3,bu3,bd3⟩⟩⟩ T) (h:40*k+40<=134217728) (hk:∀ r0:Sg,r0=crS ((meetQ S T).getD Sq.zero)->IsS (20*k+20) r0 ((meetQ S T).getD Sq.zero)->r0.a=crP ((meetQ S T).getD Sq.zero).a->r0.b=crP ((meetQ S T).getD Sq.zero).b->IsP (20*k+20) r0.a ((meetQ S T).getD Sq.zero).a->IsP (20*k+20) r0.b ((meetQ S T).getD Sq.zero).b->Is (20*k+20) r0.a.x ((meetQ S T).getD Sq.zero).a.x->Is (20*k+20) r0.a.y ((meetQ S T).getD Sq.zero).a.y->Is (20*k+20) r0.b.x ((meetQ S T).getD Sq.zero).b.x->Is (20*k+20) r0.b.y ((meetQ S T).getD Sq.zero).b.y->∀ r1:Bool,r1=(meetQ S T).isSome->K (.v (.tuple #[r0.v,.bool r1])) hh):CallTo P' hh 268 [.v (.agg #[.bool an0,.string au0,.string ad0,.bool an1,.string au1,.string ad1,.bool an2,.string au2,.string ad2,.bool an3,.string au3,.string ad3]),.v (.agg #[.bool bn0,.string bu0,.string bd0,.bool bn1,.string bu1,.string bd1,.bool bn2,.string bu2,.string bd2,.bool bn3,.string bu3,.string bd3])] K:=by
 refine CallTo.con hP hE (meet0_q ha hb h) ⟨rfl,rfl,trivial⟩ ?_
 have:=hk _ rfl (ha.bd.meet hb.bd).is rfl rfl (ha.bd.meet hb.bd).is.a (ha.bd.meet hb.bd).is.b (ha.bd.meet hb.bd).is.a.x (ha.bd.meet hb.bd).is.a.y (ha.bd.meet hb.bd).is.b.x (ha.bd.meet hb.bd).is.b.y _ rfl
 simp only [outV,outW,List.append_nil]
 exact this
theorem smeet_q {a:Sg} {S:Sq} {k:Nat} {b:Sg} {T:Sq} (ha:IsS k a S) (hb:IsS k b T) (h:40*k+40<=134217728):Con Tryz.prog 196 [.v a.v,.v b.v] (.v (.tuple #[(crS (meetS S T)).v,.bool (meetB S T),.int .i64 (meetE S T)])):=by
 obtain ⟨⟨⟨an0,au0,ad0⟩,⟨an1,au1,ad1⟩⟩,⟨⟨an2,au2,ad2⟩,⟨an3,au3,ad3⟩⟩⟩:=a
 have haa:IsP k ⟨⟨an0,au0,ad0⟩,⟨an1,au1,ad1⟩⟩ S.a:=ha.a
 have hab:IsP k ⟨⟨an2,au2,ad2⟩,⟨an3,au3,ad3⟩⟩ S.b:=ha.b
 have haax:Is k ⟨an0,au0,ad0⟩ S.a.x:=ha.a.x
 have haay:Is k ⟨an1,au1,ad1⟩ S.a.y:=ha.a.y
 have habx:Is k ⟨an2,au2,ad2⟩ S.b.x:=ha.b.x
 have haby:Is k ⟨an3,au3,ad3⟩ S.b.y:=ha.b.y
 obtain ⟨⟨⟨bn0,bu0,bd0⟩,⟨bn1,bu1,bd1⟩⟩,⟨⟨bn2,bu2,bd2⟩,⟨bn3,bu3,bd3⟩⟩⟩:=b
 have hba:IsP k ⟨⟨bn0,bu0,bd0⟩,⟨bn1,bu1,bd1⟩⟩ T.a:=hb.a
 have hbb:IsP k ⟨⟨bn2,bu2,bd2⟩,⟨bn3,bu3,bd3⟩⟩ T.b:=hb.b
 have hbax:Is k ⟨bn0,bu0,bd0⟩ T.a.x:=hb.a.x
 have hbay:Is k ⟨bn1,bu1,bd1⟩ T.a.y:=hb.a.y
 have hbbx:Is k ⟨bn2,bu2,bd2⟩ T.b.x:=hb.b.x
 have hbby:Is k ⟨bn3,bu3,bd3⟩ T.b.y:=hb.b.y
 obtain ⟨r0,e0⟩:∃ r,r=crS (meetS S T):=⟨_,rfl⟩
 rw [<-e0]
 obtain ⟨r1,e1⟩:∃ r,r=meetB S T:=⟨_,rfl⟩
 rw [<-e1]
 obtain ⟨r2,e2⟩:∃ r,r=meetE S T:=⟨_,rfl⟩
 rw [<-e2]
 refine Con.of ttOk mixed Tryz.func196 {} .nil 0 (by kernel_rfl) (fun P' E hP hE=>?_)
 cbv
 refine wrong_c hP hE (by assumption) (by assumption) (by omega) ?_
 intro b1 eb1
 cbv
 refine fork.mk ?_ ?_
 ·intro g1
  cbv
  subst hE
  have hm:wrongQ S T=true:=eb1.symm.trans g1
  rw [e0,e1,e2,meetS,meetB,meetE,if_pos hm,if_pos hm,if_pos hm,crS_zero]
 ·intro g1
  cbv
  refine meet0_c hP hE (by assumption) (by assumption) (by omega) ?_
  intro m em hm ema emb hma hmb hmax hmay hmbx hmby b2 eb2
  cbv
  subst hE
  have hm:¬ wrongQ S T=true:=by rw [<-eb1,g1]; simp
  rw [e0,e1,e2,meetS,meetB,meetE,if_neg hm,if_neg hm,if_neg hm,em,eb2]
theorem smeet_p {a:Sg} {S:Sq} {k:Nat} {b:Sg} {T:Sq} (ha:IsS k a S) (hb:IsS k b T) (h:40*k+40<=134217728):∃ (r0:Sg) (r1:Bool) (r2:Int),r0=crS (meetS S T)/\IsS (20*k+20) r0 (meetS S T)/\r1=meetB S T/\r2=meetE S T/\Con Tryz.prog 196 [.v a.v,.v b.v] (.v (.tuple #[r0.v,.bool r1,.int .i64 r2])):=⟨_,_,_,rfl,(ha.bd.meetS hb.bd).is,rfl,rfl,smeet_q ha hb h⟩
theorem str_eq (a b:ByteArray):(a.toList == b.toList)=decide (a=b):=sq_iff
theorem str_iff (a b:ByteArray):(a.toList == b.toList)=true ↔ a=b:=by rw [str_eq]; simp
/-- '==' of two numbers, points, segments. -/
theorem eqc_R (p q:R):eqCells p.c q.c=true ↔ p=q:=by
 obtain ⟨a,b,c⟩:=p
 obtain ⟨a',b',c'⟩:=q
 simp [eqCells,str_iff,-beq_iff_eq]
 simp
theorem eqc_P (p q:Pt):eqCells p.c q.c=true ↔ p=q:=by
 obtain ⟨⟨a,b,c⟩,⟨d,e,f⟩⟩:=p
 obtain ⟨⟨a',b',c'⟩,⟨d',e',f'⟩⟩:=q
 simp [eqCells,str_iff,-beq_iff_eq,and_assoc]
 simp
theorem bd_int {n:Int} (h : -9223372036854775808<=n/\n < 9223372036854775808):Bd 8 (n:Rat):=Bd.int (by
 have:(256:Nat) ^ 8=18446744073709551616:=by decide
 omega) (by decide)
theorem mul_neg_iff {a b:Rat}:a*b < 0 ↔ (a < 0/\0 < b)\/(0 < a/\b < 0):=by
 constructor
 ·intro h
  by_cases ha:0 < a
  ·refine .inr ⟨ha,?_⟩
   exact (Rat.mul_neg_iff_of_pos_left ha).1 h
  ·by_cases hb:0 < b
   ·refine .inl ⟨?_,hb⟩
    exact (Rat.mul_neg_iff_of_pos_right hb).1 h
   ·have:=Rat.mul_nonneg (a := -a) (b := -b) (by grind) (by grind)
    grind
 ·rintro (⟨h1,h2⟩ | ⟨h1,h2⟩)
  ·exact (Rat.mul_neg_iff_of_pos_right h2).2 h1
  ·exact (Rat.mul_neg_iff_of_pos_left h1).2 h2
theorem mul_pos_iff {a b:Rat}:0 < a*b ↔ (0 < a/\0 < b)\/(a < 0/\b < 0):=by
 have:=mul_neg_iff (a:=a) (b := -b)
 constructor
 ·intro h
  have h2:a * -b < 0:=by grind
  have:=this.1 h2
  grind
 ·intro h
  have:a * -b < 0:=this.2 (by grind)
  grind
theorem sgn_mul {a b:Rat}:cmpQ a 0*cmpQ b 0 = -1 ↔ a*b < 0:=by
 rw [mul_neg_iff]
 unfold cmpQ
 by_cases h1:a < 0<;>by_cases h2:0 < a<;>by_cases h3:b < 0<;>by_cases h4:0 < b<;>simp [h1,h2,h3,h4]<;>grind
/-- A number t with n = t d lies strictly between 0 and 1. -/
theorem frac_in {n d:Rat} (hd:d ≠ 0):n*(n - d) < 0 ↔ 0 < n / d/\n / d < 1:=by
 obtain ⟨t,ht⟩:∃ t,t=n / d:=⟨_,rfl⟩
 have hn:n=t*d:=by grind
 rw [<-ht,hn]
 have h2:0 < d*d:=by
  rw [mul_pos_iff]; grind
 have e:t*d*(t*d - d)=(d*d)*(t*(t - 1)):=by grind
 rw [e,Rat.mul_neg_iff_of_pos_left h2,mul_neg_iff]
 grind
def sidesQ (s t:Sq):Prop:=orQ s.a s.b t.a*orQ s.a s.b t.b = -1/\orQ t.a t.b s.a*orQ t.a t.b s.b = -1
theorem unitQ_iff {t:Rat}:unitQ t=true ↔ 0<=t/\t<=1:=by
 unfold unitQ
 rw [decide_eq_true_iff,cmpQ_ge,cmpQ_le]
theorem chkQ_iff {s:Sq}:chkQ s ≠ 0 ↔ s.a=s.b:=by
 unfold chkQ
 rw [<-cmpP_eq]
 split<;>simp_all
theorem wrongQ_iff {s t:Sq}:wrongQ s t=true ↔ s.a=s.b\/t.a=t.b:=by
 unfold wrongQ
 rw [decide_eq_true_iff,chkQ_iff,chkQ_iff]
theorem crossQ_iff {s t:Sq}:crossQ s t=true ↔ wrongQ s t=false/\∃ m,meetQ s t=some m/\m.a=m.b/\s.a ≠ m.a/\s.b ≠ m.a/\t.a ≠ m.a/\t.b ≠ m.a:=by
 unfold crossQ
 cases h:meetQ s t with
 | none=>simp
 | some m=>simp [cmpP_eq]
theorem grP_or (p q:Pq):grP p q=p\/grP p q=q:=by unfold grP; split<;>simp
theorem lsP_or (p q:Pq):lsP p q=p\/lsP p q=q:=by unfold lsP; split<;>simp
theorem ordS_a (s:Sq):(ordS s).a=s.a\/(ordS s).a=s.b:=by unfold ordS; split<;>simp
theorem ordS_b (s:Sq):(ordS s).b=s.a\/(ordS s).b=s.b:=by unfold ordS; split<;>simp
/-- Where two segments are parallel, their common points begin with an end. -/
theorem meet_par {s t m:Sq} (h:meetQ s t=some m) (hd:(s.b.sub s.a).cross (t.b.sub t.a)=0):m.a=s.a\/m.a=s.b\/m.a=t.a\/m.a=t.b:=by
 unfold meetQ at h
 rw [if_neg (by rw [cmpQ_eq.2 hd]; simp)] at h
 split at h
 ·cases h
 ·split at h
  ·cases h
  ·injection h with h
   rw [<-h]
   have:=grP_or (ordS s).a (ordS t).a
   have:=ordS_a s
   have:=ordS_a t
   grind
theorem meet_gen {s t:Sq} (hd:(s.b.sub s.a).cross (t.b.sub t.a) ≠ 0) {x y:Rat} (hx:x=((t.a.sub s.a).cross (t.b.sub t.a)) / ((s.b.sub s.a).cross (t.b.sub t.a))) (hy:y=((t.a.sub s.a).cross (s.b.sub s.a)) / ((s.b.sub s.a).cross (t.b.sub t.a))) :
  meetQ s t=if (0<=x/\x<=1)/\(0<=y/\y<=1) then some ⟨s.a.at s.b x,s.a.at s.b x⟩ else none:=by
 unfold meetQ
 rw [if_pos (by rw [ne_eq,cmpQ_eq]; exact hd),<-hx,<-hy]
 simp only [unitQ_iff]
theorem cross_iff (s t:Sq):crossQ s t=true ↔ sidesQ s t:=by
 unfold sidesQ orQ
 rw [sgn_mul,sgn_mul,crossQ_iff]
 obtain ⟨d,hd⟩:∃ d,d=(s.b.sub s.a).cross (t.b.sub t.a):=⟨_,rfl⟩
 obtain ⟨p,hp⟩:∃ d,d=(t.a.sub s.a).cross (t.b.sub t.a):=⟨_,rfl⟩
 obtain ⟨q,hq⟩:∃ d,d=(t.a.sub s.a).cross (s.b.sub s.a):=⟨_,rfl⟩
 have e1:(s.b.sub s.a).cross (t.a.sub s.a) = -q:=by rw [hq]; simp only [Pq.cross,Pq.sub]; grind
 have e2:(s.b.sub s.a).cross (t.b.sub s.a)=d - q:=by rw [hq,hd]; simp only [Pq.cross,Pq.sub]; grind
 have e3:(t.b.sub t.a).cross (s.a.sub t.a)=p:=by rw [hp]; simp only [Pq.cross,Pq.sub]; grind
 have e4:(t.b.sub t.a).cross (s.b.sub t.a)=p - d:=by rw [hp,hd]; simp only [Pq.cross,Pq.sub]; grind
 rw [e1,e2,e3,e4]
 have e5 : -q*(d - q)=q*(q - d):=by grind
 rw [e5]
 by_cases h0:d=0
 ·-- parallel: neither
  have hR:¬ (q*(q - d) < 0/\p*(p - d) < 0):=by
   rintro ⟨h,_⟩
   rw [h0,mul_neg_iff] at h
   grind
  refine iff_of_false ?_ hR
  rintro ⟨_,m,hm,_,h1,h2,h3,h4⟩
  have:=meet_par hm (by rw [<-hd,h0])
  grind
 ·rw [frac_in h0,frac_in h0]
  obtain ⟨x,hx⟩:∃ x,x=p / d:=⟨_,rfl⟩
  obtain ⟨y,hy⟩:∃ x,x=q / d:=⟨_,rfl⟩
  have hm:=meet_gen (s:=s) (t:=t) (x:=x) (y:=y) (by rw [<-hd]; exact h0) (by rw [<-hd,<-hp]; exact hx) (by rw [<-hd,<-hq]; exact hy)
  have px:p=x*d:=by grind
  have qy:q=y*d:=by grind
  rw [hm,<-hx,<-hy]
  clear hx hy hm
  obtain ⟨⟨ax,ay⟩,⟨bx,by'⟩⟩:=s
  obtain ⟨⟨cx,cy⟩,⟨dx,dy⟩⟩:=t
  simp only [Pq.cross,Pq.sub] at hd hp hq e1 e2 e3 e4
  clear e1 e2 e3 e4 e5
  -- the common point, seen from the other segment
  have f1:ax+(bx - ax)*x=cx+(dx - cx)*y:=by grind
  have f2:ay+(by' - ay)*x=cy+(dy - cy)*y:=by grind
  have nab:¬ (ax=bx/\ay=by'):=by grind
  have ncd:¬ (cx=dx/\cy=dy):=by grind
  have hw:wrongQ ⟨⟨ax,ay⟩,⟨bx,by'⟩⟩ ⟨⟨cx,cy⟩,⟨dx,dy⟩⟩=false:=by
   rw [<-Bool.not_eq_true,wrongQ_iff]
   simp only [Pq.iff]
   grind
  rw [hw]
  constructor
  ·rintro ⟨_,m,h1,_,h2,h3,h4,h5⟩
   split at h1
   ·rename_i hh
    injection h1 with h1
    rw [<-h1] at h2 h3 h4 h5
    simp only [Pq.at,Pq.add,Pq.sub,Pq.scale,ne_eq,Pq.iff] at h2 h3 h4 h5
    rw [f1,f2] at h4 h5
    refine ⟨⟨?_,?_⟩,⟨?_,?_⟩⟩
    ·refine Rat.lt_of_le_of_ne hh.2.1 (fun e=>h4 ?_); rw [<-e]; grind
    ·refine Rat.lt_of_le_of_ne hh.2.2 (fun e=>h5 ?_); rw [e]; grind
    ·refine Rat.lt_of_le_of_ne hh.1.1 (fun e=>h2 ?_); rw [<-e]; grind
    ·refine Rat.lt_of_le_of_ne hh.1.2 (fun e=>h3 ?_); rw [e]; grind
   ·cases h1
  ·rintro ⟨⟨h1,h2⟩,h3,h4⟩
   rw [if_pos ⟨⟨Rat.le_of_lt h3,Rat.le_of_lt h4⟩,Rat.le_of_lt h1,Rat.le_of_lt h2⟩]
   refine ⟨rfl,_,rfl,rfl,?_,?_,?_,?_⟩
   ·simp only [Pq.at,Pq.add,Pq.sub,Pq.scale,ne_eq,Pq.iff]
    rintro ⟨g1,g2⟩
    have:(bx - ax)*x=0:=by grind
    have:(by' - ay)*x=0:=by grind
    grind
   ·simp only [Pq.at,Pq.add,Pq.sub,Pq.scale,ne_eq,Pq.iff]
    rintro ⟨g1,g2⟩
    have:(bx - ax)*(x - 1)=0:=by grind
    have:(by' - ay)*(x - 1)=0:=by grind
    grind
   ·simp only [Pq.at,Pq.add,Pq.sub,Pq.scale,ne_eq,Pq.iff]
    rw [f1,f2]
    rintro ⟨g1,g2⟩
    have:(dx - cx)*y=0:=by grind
    have:(dy - cy)*y=0:=by grind
    grind
   ·simp only [Pq.at,Pq.add,Pq.sub,Pq.scale,ne_eq,Pq.iff]
    rw [f1,f2]
    rintro ⟨g1,g2⟩
    have:(dx - cx)*(y - 1)=0:=by grind
    have:(dy - cy)*(y - 1)=0:=by grind
    grind
theorem cmpP_lt {p q:Pq}:cmpP p q < 0 ↔ p.x < q.x\/(p.x=q.x/\p.y < q.y):=by
 unfold cmpP cmpQ; grind
theorem cmpP_gt {p q:Pq}:0 < cmpP p q ↔ q.x < p.x\/(p.x=q.x/\q.y < p.y):=by
 unfold cmpP cmpQ; grind
theorem cmpP_le {p q:Pq}:cmpP p q<=0 ↔ p.x < q.x\/(p.x=q.x/\p.y<=q.y):=by
 unfold cmpP cmpQ; grind
theorem cmpP_ge {p q:Pq}:0<=cmpP p q ↔ q.x < p.x\/(p.x=q.x/\q.y<=p.y):=by
 unfold cmpP cmpQ; grind
theorem cmpP_mul {a b c d:Pq}:0<=cmpP a b*cmpP c d ↔ (cmpP a b<=0/\cmpP c d<=0)\/(0<=cmpP a b/\0<=cmpP c d):=by
 rcases cmpP_rng a b with h | h | h<;>rcases cmpP_rng c d with h' | h' | h'<;>rw [h,h']<;>decide
/-- The points of a segment. -/
def OnS (s:Sq) (p:Pq):Prop:=∃ t:Rat,0<=t/\t<=1/\p=s.a.at s.b t
theorem mul_le_self {a t:Rat} (ha:0<=a) (h0:0<=t) (h1:t<=1):0<=a*t/\a*t<=a:=by
 have h2:=Rat.mul_nonneg ha h0
 have h3:=Rat.mul_nonneg ha (show 0<=1 - t by grind)
 grind
theorem div_in {n d:Rat} (hd:0 < d):(0<=n / d ↔ 0<=n)/\(n / d<=1 ↔ n<=d):=by
 obtain ⟨t,ht⟩:∃ t,t=n / d:=⟨_,rfl⟩
 have hn:n=d*t:=by grind
 rw [<-ht]
 constructor
 ·constructor
  ·intro h; have:=Rat.mul_nonneg (Rat.le_of_lt hd) h; grind
  ·intro h
   refine Decidable.byContradiction fun c=>?_
   have:=(Rat.mul_neg_iff_of_pos_left hd).2 (show t < 0 by grind)
   grind
 ·constructor
  ·intro h; have:=Rat.mul_nonneg (Rat.le_of_lt hd) (show 0<=1 - t by grind); grind
  ·intro h
   refine Decidable.byContradiction fun c=>?_
   have:=(Rat.mul_neg_iff_of_pos_left hd).2 (show 1 - t < 0 by grind)
   grind
theorem on_iff (s:Sq) (p:Pq):onQ s p=true ↔ OnS s p:=by
 obtain ⟨⟨ax,ay⟩,⟨bx,by'⟩⟩:=s
 obtain ⟨px,py⟩:=p
 unfold onQ btwQ OnS orQ
 rw [decide_eq_true_iff,cmpQ_eq,cmpP_mul,cmpP_le,cmpP_le,cmpP_ge,cmpP_ge,ne_eq,cmpP_eq,cmpP_eq]
 simp only [Pq.cross,Pq.sub,Pq.at,Pq.add,Pq.scale,Pq.iff]
 constructor
 ·rintro ⟨h1,h2,h3⟩
  by_cases hab:ax=bx/\ay=by'
  ·exact ⟨0,by grind,by grind,by grind,by grind⟩
  ·by_cases hx:ax=bx
   ·have hy:by' ≠ ay:=by grind
    have hpx:px=ax:=by
     have:(by' - ay)*(px - ax)=0:=by grind
     grind
    refine ⟨(py - ay) / (by' - ay),?_,?_,by grind,by grind⟩
    ·by_cases g:ay < by'
     ·rw [(div_in (by grind)).1]; grind
     ·have e:(py - ay) / (by' - ay)=(ay - py) / (ay - by'):=by grind
      rw [e,(div_in (by grind)).1]; grind
    ·by_cases g:ay < by'
     ·rw [(div_in (by grind)).2]; grind
     ·have e:(py - ay) / (by' - ay)=(ay - py) / (ay - by'):=by grind
      rw [e,(div_in (by grind)).2]; grind
   ·refine ⟨(px - ax) / (bx - ax),?_,?_,by grind,by grind⟩
    ·by_cases g:ax < bx
     ·rw [(div_in (by grind)).1]; grind
     ·have e:(px - ax) / (bx - ax)=(ax - px) / (ax - bx):=by grind
      rw [e,(div_in (by grind)).1]; grind
    ·by_cases g:ax < bx
     ·rw [(div_in (by grind)).2]; grind
     ·have e:(px - ax) / (bx - ax)=(ax - px) / (ax - bx):=by grind
      rw [e,(div_in (by grind)).2]; grind
 ·rintro ⟨t,h0,h1,h2,h3⟩
  refine ⟨by grind,?_,?_⟩
  ·by_cases g:ax < bx
   ·have:=mul_le_self (a:=bx - ax) (t:=t) (by grind) h0 h1
    by_cases g2:ay<=by'
    ·have:=mul_le_self (a:=by' - ay) (t:=t) (by grind) h0 h1
     by_cases e0:px=ax
     ·have:(bx - ax)*t=0:=by grind
      have:t=0:=by grind
      grind
     ·by_cases e1:px=bx
      ·have:(bx - ax)*(t - 1)=0:=by grind
       have:t=1:=by grind
       grind
      ·grind
    ·by_cases e0:px=ax
     ·have:(bx - ax)*t=0:=by grind
      have:t=0:=by grind
      grind
     ·by_cases e1:px=bx
      ·have:(bx - ax)*(t - 1)=0:=by grind
       have:t=1:=by grind
       grind
      ·grind
   ·by_cases g':bx < ax
    ·have:=mul_le_self (a:=ax - bx) (t:=t) (by grind) h0 h1
     by_cases e0:px=ax
     ·have:(bx - ax)*t=0:=by grind
      have:t=0:=by grind
      grind
     ·by_cases e1:px=bx
      ·have:(bx - ax)*(t - 1)=0:=by grind
       have:t=1:=by grind
       grind
      ·grind
    ·have hx:ax=bx:=by grind
     by_cases g2:ay<=by'
     ·have:=mul_le_self (a:=by' - ay) (t:=t) (by grind) h0 h1
      grind
     ·have:=mul_le_self (a:=ay - by') (t:=t) (by grind) h0 h1
      grind
  ·by_cases hab:ax=bx/\ay=by'
   ·grind
   ·exact .inl hab
/-- The lexicographic order. -/
def leP (p q:Pq):Prop:=p.x < q.x\/(p.x=q.x/\p.y<=q.y)
theorem leP_cmp {p q:Pq}:cmpP p q<=0 ↔ leP p q:=cmpP_le
theorem leP_cmp' {p q:Pq}:0<=cmpP p q ↔ leP q p:=by
 rw [cmpP_ge]; unfold leP; grind
theorem leP_lt {p q:Pq}:¬ leP p q ↔ 0 < cmpP p q:=by
 rw [cmpP_gt]; unfold leP; grind
theorem leP_anti {p q:Pq} (h:leP p q) (h':leP q p):p=q:=by
 unfold leP at h h'
 exact Pq.ext' (by grind) (by grind)
theorem leP_refl (p:Pq):leP p p:=by unfold leP; grind
theorem leP_trans {p q r:Pq} (h:leP p q) (h':leP q r):leP p r:=by unfold leP at *; grind
theorem on_lex (s:Sq) (p:Pq):OnS s p ↔ (s.b.sub s.a).cross (p.sub s.a)=0/\leP (ordS s).a p/\leP p (ordS s).b:=by
 rw [<-on_iff]
 unfold onQ btwQ orQ
 rw [decide_eq_true_iff,cmpQ_eq,cmpP_mul,leP_cmp,leP_cmp,leP_cmp',leP_cmp',ne_eq,cmpP_eq,cmpP_eq]
 refine and_congr_right fun _=>?_
 unfold ordS
 split
 ·rename_i h
  rw [<-leP_lt] at h
  have n:¬ s.a=s.b:=fun e=>h (by rw [e]; exact leP_refl _)
  constructor
  ·rintro ⟨h1 | h1,_⟩
   ·exact absurd (leP_trans h1.1 h1.2) h
   ·exact ⟨h1.2,h1.1⟩
  ·intro h1; exact ⟨.inr ⟨h1.2,h1.1⟩,.inl n⟩
 ·rename_i h
  rw [<-leP_lt,Classical.not_not] at h
  constructor
  ·rintro ⟨h1 | h1,h2⟩
   ·exact h1
   ·rcases h2 with h2 | h2
    ·exact absurd (leP_anti h (leP_trans h1.2 h1.1)) h2
    ·rw [<-h2]; exact ⟨leP_refl _,h⟩
  ·intro h1
   refine ⟨.inl h1,?_⟩
   by_cases e:s.a=s.b
   ·rw [<-e] at h1; exact .inr (leP_anti h1.1 h1.2)
   ·exact .inl e
theorem gr_le {p q x:Pq}:leP (grP p q) x ↔ leP p x/\leP q x:=by
 unfold grP
 split
 ·rename_i h
  have h:leP p q:=by rw [cmpP_lt] at h; unfold leP; grind
  exact ⟨fun g=>⟨leP_trans h g,g⟩,fun g=>g.2⟩
 ·rename_i h
  have h:leP q p:=by rw [<-leP_cmp']; omega
  exact ⟨fun g=>⟨g,leP_trans h g⟩,fun g=>g.1⟩
theorem ls_le {p q x:Pq}:leP x (lsP p q) ↔ leP x p/\leP x q:=by
 unfold lsP
 split
 ·rename_i h
  have h:leP p q:=by rw [cmpP_lt] at h; unfold leP; grind
  exact ⟨fun g=>⟨g,leP_trans g h⟩,fun g=>g.1⟩
 ·rename_i h
  have h:leP q p:=by rw [<-leP_cmp']; omega
  exact ⟨fun g=>⟨leP_trans g h,g⟩,fun g=>g.2⟩
/-- Parallel vectors. -/
theorem par {u v:Pq} (hu:¬ (u.x=0/\u.y=0)) (h:u.cross v=0):∃ k,v.x=k*u.x/\v.y=k*u.y:=by
 unfold Pq.cross at h
 by_cases hx:u.x=0
 ·have hy:u.y ≠ 0:=fun e=>hu ⟨hx,e⟩
  refine ⟨v.y / u.y,?_,by grind⟩
  have:u.y*v.x=0:=by grind
  grind
 ·exact ⟨v.x / u.x,by grind,by grind⟩
theorem at_on {s:Sq}:OnS s s.a/\OnS s s.b:=by
 refine ⟨⟨0,by grind,by grind,Pq.ext' ?_ ?_⟩,⟨1,by grind,by grind,Pq.ext' ?_ ?_⟩⟩<;>simp only [Pq.at,Pq.add,Pq.sub,Pq.scale]<;>grind
/-- What the common points of two valid segments are. -/
theorem meet_on {s t:Sq} (hs:s.a ≠ s.b) (ht:t.a ≠ t.b) (x:Pq):OnS s x/\OnS t x ↔ ∃ m,meetQ s t=some m/\OnS m x:=by
 by_cases h0:(s.b.sub s.a).cross (t.b.sub t.a)=0
 ·by_cases h1:(s.b.sub s.a).cross (t.a.sub s.a)=0
  ·-- on one line
   have hu:¬ ((s.b.sub s.a).x=0/\(s.b.sub s.a).y=0):=fun h=>hs (Pq.ext' (by have:=h.1; simp only [Pq.sub] at this; grind) (by have:=h.2; simp only [Pq.sub] at this; grind))
   obtain ⟨k,hk1,hk2⟩:=par hu h0
   obtain ⟨j,hj1,hj2⟩:=par hu h1
   have hk:k ≠ 0:=by
    intro e
    refine ht (Pq.ext' ?_ ?_)
    ·simp only [Pq.sub] at hk1; grind
    ·simp only [Pq.sub] at hk2; grind
   have hL:∀ p:Pq,(t.b.sub t.a).cross (p.sub t.a)=0 ↔ (s.b.sub s.a).cross (p.sub s.a)=0:=by
    intro p
    have e:(t.b.sub t.a).cross (p.sub t.a)=k*(s.b.sub s.a).cross (p.sub s.a):=by
     simp only [Pq.cross,Pq.sub] at *
     grind
    rw [e,Rat.mul_eq_zero]
    exact ⟨fun h=>h.resolve_left hk,.inr⟩
   rw [on_lex,on_lex,hL]
   have hm:meetQ s t=if cmpP (grP (ordS s).a (ordS t).a) (lsP (ordS s).b (ordS t).b) > 0 then none else some ⟨grP (ordS s).a (ordS t).a,lsP (ordS s).b (ordS t).b⟩:=by
    unfold meetQ
    rw [if_neg (by rw [cmpQ_eq.2 h0]; simp),if_neg (by rw [cmpQ_eq.2 h1]; simp)]
   obtain ⟨a,ha⟩:∃ a,a=grP (ordS s).a (ordS t).a:=⟨_,rfl⟩
   obtain ⟨b,hb⟩:∃ a,a=lsP (ordS s).b (ordS t).b:=⟨_,rfl⟩
   have hx:(leP (ordS s).a x/\leP x (ordS s).b)/\(leP (ordS t).a x/\leP x (ordS t).b) ↔ leP a x/\leP x b:=by
    rw [ha,hb,gr_le,ls_le]
    exact ⟨fun h=>⟨⟨h.1.1,h.2.1⟩,h.1.2,h.2.2⟩,fun h=>⟨⟨h.1.1,h.2.1⟩,h.1.2,h.2.2⟩⟩
   have hleft:((s.b.sub s.a).cross (x.sub s.a)=0/\leP (ordS s).a x/\leP x (ordS s).b)/\(s.b.sub s.a).cross (x.sub s.a)=0/\leP (ordS t).a x/\leP x (ordS t).b ↔ (s.b.sub s.a).cross (x.sub s.a)=0/\leP a x/\leP x b:=by
    rw [<-hx]
    exact ⟨fun h=>⟨h.1.1,h.1.2,h.2.2⟩,fun h=>⟨⟨h.1,h.2.1⟩,h.1,h.2.2⟩⟩
   rw [hleft,hm,<-ha,<-hb]
   -- a and b lie on the line
   have lS:(s.b.sub s.a).cross (s.a.sub s.a)=0/\(s.b.sub s.a).cross (s.b.sub s.a)=0:=by simp only [Pq.cross,Pq.sub]; grind
   have lT:(s.b.sub s.a).cross (t.a.sub s.a)=0/\(s.b.sub s.a).cross (t.b.sub s.a)=0:=by
    refine ⟨h1,?_⟩
    rw [<-hL]; simp only [Pq.cross,Pq.sub]; grind
   have la:(s.b.sub s.a).cross (a.sub s.a)=0:=by
    rcases grP_or (ordS s).a (ordS t).a with h | h<;>rw [ha,h]
    ·rcases ordS_a s with h | h<;>rw [h]
     ·exact lS.1
     ·exact lS.2
    ·rcases ordS_a t with h | h<;>rw [h]
     ·exact lT.1
     ·exact lT.2
   have lb:(s.b.sub s.a).cross (b.sub s.a)=0:=by
    rcases lsP_or (ordS s).b (ordS t).b with h | h<;>rw [hb,h]
    ·rcases ordS_b s with h | h<;>rw [h]
     ·exact lS.1
     ·exact lS.2
    ·rcases ordS_b t with h | h<;>rw [h]
     ·exact lT.1
     ·exact lT.2
   split
   ·rename_i hc
    have hc:¬ leP a b:=leP_lt.2 hc
    constructor
    ·rintro ⟨_,h2,h3⟩; exact absurd (leP_trans h2 h3) hc
    ·rintro ⟨m,h,_⟩; cases h
   ·rename_i hc
    have hc:leP a b:=by rw [<-leP_cmp]; omega
    have ho:ordS ⟨a,b⟩=⟨a,b⟩:=by
     unfold ordS
     rw [if_neg (by rw [<-leP_lt,Classical.not_not]; exact hc)]
    have hR:(∃ m,some (⟨a,b⟩:Sq)=some m/\OnS m x) ↔ OnS ⟨a,b⟩ x:=by
     constructor
     ·rintro ⟨m,h,h'⟩; injection h with h; rw [h]; exact h'
     ·intro h; exact ⟨_,rfl,h⟩
    rw [hR,on_lex,ho]
    constructor
    ·rintro ⟨h2,h3,h4⟩
     refine ⟨?_,h3,h4⟩
     obtain ⟨k1,q1,q2⟩:=par hu la
     obtain ⟨k2,q3,q4⟩:=par hu lb
     obtain ⟨k3,q5,q6⟩:=par hu h2
     simp only [Pq.cross,Pq.sub] at *
     grind
    ·rintro ⟨h2,h3,h4⟩
     refine ⟨?_,h3,h4⟩
     by_cases e:a=b
     ·rw [<-e] at h4
      rw [<-leP_anti h3 h4]; exact la
     ·obtain ⟨k1,q1,q2⟩:=par hu la
      obtain ⟨k2,q3,q4⟩:=par hu lb
      have ne:k2 - k1 ≠ 0:=by
       intro e'
       refine e (Pq.ext' ?_ ?_)
       ·simp only [Pq.sub] at q1 q3; grind
       ·simp only [Pq.sub] at q2 q4; grind
      have e2:(b.sub a).cross (x.sub a)=(k2 - k1)*(s.b.sub s.a).cross (x.sub s.a):=by
       simp only [Pq.cross,Pq.sub] at *
       grind
      have h2:(b.sub a).cross (x.sub a)=0:=h2
      rw [e2,Rat.mul_eq_zero] at h2
      exact h2.resolve_left ne
  ·-- parallel lines
   have hm:meetQ s t=none:=by
    unfold meetQ
    rw [if_neg (by rw [cmpQ_eq.2 h0]; simp),if_pos (by rw [ne_eq,cmpQ_eq]; exact h1)]
   rw [hm]
   refine iff_of_false ?_ (by rintro ⟨m,h,_⟩; cases h)
   rintro ⟨⟨l,_,_,hl⟩,⟨n,_,_,hn⟩⟩
   rw [hl] at hn
   have:=Pq.iff.1 hn
   simp only [Pq.at,Pq.add,Pq.sub,Pq.scale,Pq.cross] at *
   refine h1 ?_
   grind
 ·-- one common point at most
  obtain ⟨u,hu⟩:∃ x,x=((t.a.sub s.a).cross (t.b.sub t.a)) / ((s.b.sub s.a).cross (t.b.sub t.a)):=⟨_,rfl⟩
  obtain ⟨v,hv⟩:∃ x,x=((t.a.sub s.a).cross (s.b.sub s.a)) / ((s.b.sub s.a).cross (t.b.sub t.a)):=⟨_,rfl⟩
  rw [meet_gen h0 hu hv]
  have eu:(t.a.sub s.a).cross (t.b.sub t.a)=u*(s.b.sub s.a).cross (t.b.sub t.a):=by grind
  have ev:(t.a.sub s.a).cross (s.b.sub s.a)=v*(s.b.sub s.a).cross (t.b.sub t.a):=by grind
  have f:s.a.at s.b u=t.a.at t.b v:=by
   refine Pq.ext' ?_ ?_
   ·simp only [Pq.at,Pq.add,Pq.sub,Pq.scale,Pq.cross] at *; grind
   ·simp only [Pq.at,Pq.add,Pq.sub,Pq.scale,Pq.cross] at *; grind
  constructor
  ·rintro ⟨⟨l,l0,l1,hl⟩,⟨n,n0,n1,hn⟩⟩
   have hh:=Pq.iff.1 (hl.symm.trans hn)
   have el:l=u:=by
    have:(l - u)*(s.b.sub s.a).cross (t.b.sub t.a)=0:=by
     simp only [Pq.at,Pq.add,Pq.sub,Pq.scale,Pq.cross] at *; grind
    grind
   have en:n=v:=by
    have:(n - v)*(s.b.sub s.a).cross (t.b.sub t.a)=0:=by
     simp only [Pq.at,Pq.add,Pq.sub,Pq.scale,Pq.cross] at *; grind
    grind
   rw [<-el,<-en,if_pos ⟨⟨l0,l1⟩,n0,n1⟩]
   refine ⟨_,rfl,0,by grind,by grind,?_⟩
   rw [hl]
   refine Pq.ext' ?_ ?_<;>simp only [Pq.at,Pq.add,Pq.sub,Pq.scale]<;>grind
  ·rintro ⟨m,h,w,_,_,hw⟩
   split at h
   ·rename_i hh
    injection h with h
    have:x=s.a.at s.b u:=by
     rw [hw,<-h]
     refine Pq.ext' ?_ ?_<;>simp only [Pq.at,Pq.add,Pq.sub,Pq.scale]<;>grind
    exact ⟨⟨u,hh.1.1,hh.1.2,this⟩,⟨v,hh.2.1,hh.2.2,by rw [this,f]⟩⟩
   ·cases h
/-- Is a point the last one? -/
def lastIs (l:List Pq) (p:Pq):Bool:=match l.getLast? with
 | none=>false
 | some q=>decide (cmpP p q=0)
/-- A list without what stands twice, one behind the other: point after point. -/
def ddS (acc:List Pq) (p:Pq):List Pq:=if lastIs acc p=true then acc else acc++[p]
def dd (l:List Pq):List Pq:=l.foldl ddS []
end Go.Proofs.YtkipmmiiackdaaaGreat.Sx
