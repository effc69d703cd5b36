/- Part 33 of what the statement needs: an executor of Go texts, arithmetic, and contracts of the functions that are called. -/
import Derived.Test.YtkipmmiiackdaaaGreatCi27
import Derived.Test.YtkipmmiiackdaaaGreatCi30
import Derived.Test.YtkipmmiiackdaaaGreatCi32
set_option linter.unusedSimpArgs false
set_option linter.unusedVariables false
set_option maxHeartbeats 16000000
set_option maxRecDepth 100000
namespace Go.Proofs.YtkipmmiiackdaaaGreat.Sx
open Env (std)
def lftQ (A:List Pq) (i:Nat):Bool:=decide (0 < orQ (at' A i) (at' A ((i+1) % A.length)) (at' A ((i+2) % A.length)))
/-- The list that is moved, so far, and whether all turns so far go to the left. -/
structure CtrI (A:List Pq) (V:Pq) (n i:Int) (out:List Pt) (cv:Bool):Prop where
 h0:0<=i
 h1:i<=n
 ol:out.length=n.toNat
 eq:out.take i.toNat=((A.map (·.add V)).take i.toNat).map crP
 cv:cv=(List.range i.toNat).all (lftQ A)
structure CtrF (A:List Pq) (l:List Pt) (v:Pt) (n i:Int) (out:List Pt) (cv:Bool) (j:Int) (p q:Pt) (out':List Pt) (r1 i2 r2:Int) (p1 p2:Pt) (m:Int) (cb:Bool):Prop where
 in1:0<=i/\i < (l.length:Int)
 in2:0<=i/\i < (out.length:Int)
 add:std.ib .add .i64 i 1=j
 g0:std.get Pt l i zQ=p
 kad:Con Tryz.prog 27 [.v p.v,.v v.v] (.v q.v)
 set:std.set Pt out i q=out'
 nz:n ≠ 0
 e1:std.ib .rem .i64 j n=r1
 n1:0<=r1/\r1 < (l.length:Int)
 g1:std.get Pt l r1 zQ=p1
 a2:std.ib .add .i64 i 2=i2
 e2:std.ib .rem .i64 i2 n=r2
 n2:0<=r2/\r2 < (l.length:Int)
 g2:std.get Pt l r2 zQ=p2
 ko:Con Tryz.prog 28 [.v p.v,.v p1.v,.v p2.v] (.v (.int .i64 m))
 ecb:decide (m > 0)=cb
 inv1:cv=true->CtrI A v.q n j out' cb
 inv2:cv=false->CtrI A v.q n j out' false
 mu:(n - j).toNat < (n - i).toNat
theorem ctrF_ex {A:List Pq} {l:List Pt} {v:Pt} (hf:Fine l A) (hv:IsP 24 v v.q) {n i:Int} {out:List Pt} {cv:Bool} (hn:n=(l.length:Int)) (h:CtrI A v.q n i out cv) (hi:i < n):∃ j p q out' r1 i2 r2 p1 p2 m cb,CtrF A l v n i out cv j p q out' r1 i2 r2 p1 p2 m cb:=by
 have h14:=hf.h14
 have h3:=hf.h3
 have h0:=h.h0
 have hol:=h.ol
 have hlen:=hf.len
 obtain ⟨u,hu⟩:∃ u:Nat,i=u:=⟨i.toNat,by omega⟩
 have eu:i.toNat=u:=by omega
 have hul:u < A.length:=by omega
 have hg:∀ k:Nat,k < A.length->std.get Pt l (k:Int) zQ=crP (at' A k):=fun k hk=>by
  show l.getD (k:Int).toNat zQ=_
  rw [Int.toNat_natCast,hf.eq,List.getD_eq_getElem?_getD,List.getElem?_map,at_lt hk]; rfl
 have hb:∀ k,k < A.length->IsP 24 (crP (at' A k)) (at' A k):=fun k hk=>(hf.bd _ (at_mem hk)).is
 obtain ⟨q,eq,hq,kq⟩:=vadd_p (hb u hul) hv (by decide)
 have l1:(u+1) % A.length < A.length:=Nat.mod_lt _ (by omega)
 have l2:(u+2) % A.length < A.length:=Nat.mod_lt _ (by omega)
 obtain ⟨m,em,ko⟩:=orient_p (hb u hul) (hb _ l1) (hb _ l2) (by decide)
 have hnA:n=(A.length:Int):=by omega
 have er:∀ k:Nat,std.ib .rem .i64 (k:Int) n=((k % A.length:Nat):Int):=fun k=>by
  rw [s_rem,hnA]; rfl
 have hst:(List.range (u+1)).all (lftQ A)=((List.range u).all (lftQ A) && lftQ A u):=by
  rw [List.range_succ,List.all_append]; simp
 have hlu:lftQ A u=decide (0 < m):=by unfold lftQ; rw [em]
 have htk:(out.set u q).take (u+1)=out.take u++[q]:=by
  rw [List.take_add_one,List.take_set_of_le (Nat.le_refl u),List.getElem?_set_self (by omega)]; rfl
 have hmu:u < (A.map (·.add v.q)).length:=by rw [List.length_map]; exact hul
 have hinv:(out.set u q).take (u+1)=((A.map (·.add v.q)).take (u+1)).map crP:=by
  have h9:=h.eq
  rw [eu] at h9
  have e8:(A.map (·.add v.q))[u]?=some ((at' A u).add v.q):=by rw [List.getElem?_map,at_lt hul]; rfl
  rw [htk,h9,List.take_add_one,e8,List.map_append,eq]; rfl
 refine ⟨((u+1:Nat):Int),crP (at' A u),q,out.set u q,(((u+1) % A.length:Nat):Int),((u+2:Nat):Int),(((u+2) % A.length:Nat):Int),crP (at' A ((u+1) % A.length)),crP (at' A ((u+2) % A.length)),m,decide (0 < m),by omega,by omega,?_,?_,kq,?_,by omega,er _,by omega,hg _ l1,?_,er _,by omega,hg _ l2,ko,rfl,fun c=>?_,fun c=>?_,by omega⟩
 ·rw [s_add,w64 (by omega) (by omega)]; omega
 ·rw [hu]; exact hg u hul
 ·show out.set i.toNat q=_
  rw [eu]
 ·rw [s_add,w64 (by omega) (by omega)]; omega
 ·refine ⟨by omega,by omega,by rw [List.length_set]; exact hol,by rw [Int.toNat_natCast]; exact hinv,?_⟩
  have:=h.cv
  rw [c,eu] at this
  rw [Int.toNat_natCast,hst,<-this,hlu]; rfl
 ·refine ⟨by omega,by omega,by rw [List.length_set]; exact hol,by rw [Int.toNat_natCast]; exact hinv,?_⟩
  have:=h.cv
  rw [c,eu] at this
  rw [Int.toNat_natCast,hst,<-this]; rfl
/-- The centroids of the ring and of the moved ring. -/
structure CtrG (l:List Pt) (A:List Pq) (v c d:Pt) (M:List Pt):Prop where
 fine:Fine l A
 iv:IsP 24 v v.q
 mEq:M=(A.map (·.add v.q)).map crP
 kc:Con Tryz.prog 26 [.ro cP l] (.v (.tuple #[c.v,.int .i64 0]))
 kd:Con Tryz.prog 26 [.ro cP M] (.v (.tuple #[d.v,.int .i64 0]))
 ka:Con Tryz.prog 27 [.v c.v,.v v.v] (.v d.v)
 ec:c=crP (centQ A)
theorem cent_bd {k:Nat} {A:List Pq} (hl:A.length<=64) (hb:∀ p ∈ A,BdP k p) (hk1:1<=k):BdP (20864*k+20705) (centQ A):=by
 have h1:=cen_bd hl hb hk1 A.length
 rw [edges_all (Nat.le_refl _)] at h1
 have h2:=area_bd (l:=A) (by omega) hb hk1
 have h3:=(bd_int (n:=1) (by decide)).div ((bd_int (n:=6) (by decide)).mul h2)
 exact (h1.scale h3).mono (by omega)
theorem ctrG_ex {l:List Pt} {v:Pt} (h:fineB l=true) (hv:bigC v=false):∃ A c d M,CtrG l A v c d M:=by
 obtain ⟨A,hf⟩:=fine_ex h
 have iv:=bigC_no hv
 have hr:=fine_rg hf
 have h14:=hf.h14
 have hlen:=hf.len
 have hm:l.map Pt.q=A:=by rw [hf.eq]; exact map_q A
 have hc0:chkA l=0:=by rw [hf.eq]; exact rg_chk hr (by omega)
 have kc:=centroid_q hf.is (by omega) (by decide) (by decide)
 rw [cenP,cenE,if_pos hc0,if_pos hc0,hm] at kc
 have hrm:=hr.map v.q
 have hc1:chkA ((A.map (·.add v.q)).map crP)=0:=rg_chk hrm (by rw [List.length_map]; omega)
 have kd:=centroid_q (k:=49) (ps:=(A.map (·.add v.q)).map crP) (fun p hp=>by
  obtain ⟨x,hx,rfl⟩:=List.mem_map.1 hp
  obtain ⟨y,hy,rfl⟩:=List.mem_map.1 hx
  rw [q_crP]; exact ((hf.bd y hy).add iv.b).is) (by simp; omega) (by decide) (by decide)
 have ha0:areaQ A ≠ 0:=by
  have:=hr.ar
  grind
 rw [cenP,cenE,if_pos hc1,if_pos hc1,map_q,cent_map ha0] at kd
 obtain ⟨d,ed,hd,ka⟩:=vadd_p ((cent_bd (by omega) hf.bd (by decide)).is) iv (by decide)
 exact ⟨A,_,d,_,hf,iv,rfl,kc,by rw [ed]; exact kd,ka,rfl⟩
/-- The parts. -/
structure CtrH (l:List Pt) (c:Pt) (S1 S2 a b:List Pt) (x y:Pt) (s1 s2 s3:R) (y1 y2 y3:Pt):Prop where
 ka:Con Tryz.prog 17 [.ro cP S1] (.tup [.own 33 cP a,.v (.int .i64 0)])
 kb:Con Tryz.prog 17 [.ro cP S2] (.tup [.own 33 cP b,.v (.int .i64 0)])
 kx:Con Tryz.prog 26 [.ro cP a] (.v (.tuple #[x.v,.int .i64 0]))
 ky:Con Tryz.prog 26 [.ro cP b] (.v (.tuple #[y.v,.int .i64 0]))
 ks:Con Tryz.prog 30 [.ro cP l,.v c.v] (.v (.tuple #[.int .i64 1,.int .i64 0]))
 k1:Con Tryz.prog 32 [.ro cP a] (.v s1.v)
 k2:Con Tryz.prog 32 [.ro cP b] (.v s2.v)
 k3:Con Tryz.prog 32 [.ro cP l] (.v s3.v)
 v1:Con Tryz.prog 31 [.v x.v,.v s1.v] (.v y1.v)
 v2:Con Tryz.prog 31 [.v y.v,.v s2.v] (.v y2.v)
 v3:Con Tryz.prog 27 [.v y1.v,.v y2.v] (.v y3.v)
 v4:Con Tryz.prog 31 [.v c.v,.v s3.v] (.v y3.v)
 ta:std.tk Pt a (std.len Pt a)=a
 tb:std.tk Pt b (std.len Pt b)=b
theorem ctrH_ex {l:List Pt} {A:List Pq} {v c d:Pt} {M:List Pt} (hG:CtrG l A v c d M) (hc:(List.range A.length).all (lftQ A)=true) {m:Nat} (h2:2<=m) (hm:m+2<=A.length) :
  ∃ S1 S2 a b x y s1 s2 s3 y1 y2 y3,CtrH l c S1 S2 a b x y s1 s2 s3 y1 y2 y3/\S1=l.take (m+1)/\S2=l.drop m++l.take 1:=by
 have hf:=hG.fine
 have hr:=fine_rg hf
 have h14:=hf.h14
 have hlen:=hf.len
 have hmq:l.map Pt.q=A:=by rw [hf.eq]; exact map_q A
 obtain ⟨hsd,hcut⟩:=cut_ex hr (by omega) (fun i hi=>by
  have:=(List.all_eq_true.1 hc) i (by simpa using hi)
  exact of_decide_eq_true this) h2 hm
 have bA:=hf.bd
 have mem_a:∀ q ∈ A.take (m+1),q ∈ A:=fun q h=>List.mem_of_mem_take h
 have mem_b:∀ q ∈ A.drop m++A.take 1,q ∈ A:=fun q h=>by
  rcases List.mem_append.1 h with h | h
  ·exact List.mem_of_mem_drop h
  ·exact List.mem_of_mem_take h
 have hcan:∀ (X:List Pq),(∀ q ∈ X,q ∈ A)->1<=X.length->X.length<=64->canE true X=0->Con Tryz.prog 17 [.ro cP (X.map crP)] (.tup [.own 33 cP ((canQ X).map crP),.v (.int .i64 0)]):=fun X hX h1 hl he=>by
  have:=canon_ok (k:=24) (ps:=X.map crP) (fun p hp=>by
   obtain ⟨x,hx,rfl⟩:=List.mem_map.1 hp
   rw [q_crP]; exact (bA x (hX x hx)).is) (by rw [List.length_map]; exact h1) (by rw [List.length_map]; omega) (by decide) (by decide) (by rw [canL_map,map_q]; exact he)
  rw [map_q] at this; exact this
 have hla:(A.take (m+1)).length=m+1:=by rw [List.length_take]; omega
 have hlb:(A.drop m++A.take 1).length=A.length - m+1:=by rw [List.length_append,List.length_drop,List.length_take]; omega
 have ka:=hcan _ mem_a (by omega) (by omega) hcut.ea
 have kb:=hcan _ mem_b (by omega) (by omega) hcut.eb
 have csub:∀ X q,q ∈ canQ X->q ∈ X:=fun X q h=>by
  unfold canQ rotQ at h
  have h:q ∈ turnQ (simpQ X):=by
   rcases List.mem_append.1 h with h | h
   ·exact List.mem_of_mem_drop h
   ·exact List.mem_of_mem_take h
  unfold turnQ at h
  split at h
  ·exact simpQ_sub (List.mem_reverse.1 h)
  ·exact simpQ_sub h
 have hcen:∀ (X:List Pq),(∀ q ∈ X,q ∈ A)->X.length<=64->Rg X->Con Tryz.prog 26 [.ro cP (X.map crP)] (.v (.tuple #[(crP (centQ X)).v,.int .i64 0])):=fun X hX hl hg=>by
  have k:=centroid_q (k:=24) (ps:=X.map crP) (fun p hp=>by
   obtain ⟨x,hx,rfl⟩:=List.mem_map.1 hp
   rw [q_crP]; exact (bA x (hX x hx)).is) (by rw [List.length_map]; omega) (by decide) (by decide)
  have h0:=rg_chk hg hl
  rw [cenP,cenE,if_pos h0,if_pos h0,map_q] at k
  exact k
 have ma:∀ q ∈ canQ (A.take (m+1)),q ∈ A:=fun q h=>mem_a q (csub _ q h)
 have mb:∀ q ∈ canQ (A.drop m++A.take 1),q ∈ A:=fun q h=>mem_b q (csub _ q h)
 have lla:=hcut.la
 have llb:=hcut.lb
 have kx:=hcen _ ma (by omega) hcut.ra
 have ky:=hcen _ mb (by omega) hcut.rb
 have k1:=area_of (k:=24) _ (fun p h=>bA p (ma p h)) (by omega) (by decide) (by decide)
 have k2:=area_of (k:=24) _ (fun p h=>bA p (mb p h)) (by omega) (by decide) (by decide)
 have k3:=area_of (k:=24) A bA (by omega) (by decide) (by decide)
 have b1:=(area_bd (k:=24) (l:=canQ (A.take (m+1))) (by omega) (fun p h=>bA p (ma p h)) (by decide)).is
 have b2:=(area_bd (k:=24) (l:=canQ (A.drop m++A.take 1)) (by omega) (fun p h=>bA p (mb p h)) (by decide)).is
 have b3:=(area_bd (k:=24) (l:=A) (by omega) bA (by decide)).is
 have c1:=(cent_bd (k:=24) (A:=canQ (A.take (m+1))) (by omega) (fun p h=>bA p (ma p h)) (by decide)).is
 have c2:=(cent_bd (k:=24) (A:=canQ (A.drop m++A.take 1)) (by omega) (fun p h=>bA p (mb p h)) (by decide)).is
 have c3:=(cent_bd (k:=24) (A:=A) (by omega) bA (by decide)).is
 obtain ⟨y1,ey1,hy1,v1⟩:=vscale_p c1 b1 (by decide)
 obtain ⟨y2,ey2,hy2,v2⟩:=vscale_p c2 b2 (by decide)
 obtain ⟨y3,ey3,hy3,v3⟩:=vadd_p hy1 hy2 (by decide)
 obtain ⟨y4,ey4,hy4,v4⟩:=vscale_p c3 b3 (by decide)
 have e34:y4=y3:=by rw [ey4,ey3,hcut.sum]
 rw [e34] at v4
 have hc0:chkA l=0:=by rw [hf.eq]; exact rg_chk hr (by omega)
 have ks:=inside_z (k:=24) (kz:=521441) hf.is (by omega) (by decide) (by decide) (by decide) (by decide) (z:=c) (by
  rw [hG.ec,q_crP]; exact c3)
 have cc:canL [c]=true:=by
  have:=canL_map [centQ A]
  rw [List.map_cons,List.map_nil,<-hG.ec] at this; exact this
 have hcq:c.q=centQ A:=by rw [hG.ec]; exact q_crP _
 rw [insS,insE,if_pos hc0,if_pos hc0,if_pos cc,if_pos cc,hmq,hcq,hsd] at ks
 have tk:∀ X:List Pt,std.tk Pt X (std.len Pt X)=X:=fun X=>all_tk9 X
 exact ⟨_,_,_,_,_,_,_,_,_,_,_,_,⟨ka,kb,kx,ky,ks,k1,k2,by rw [<-hf.eq] at k3; exact k3,v1,v2,v3,by rw [hG.ec]; exact v4,tk _,tk _⟩,by rw [hf.eq,List.map_take],by rw [hf.eq,List.map_append,List.map_drop,List.map_take]⟩
/-- Where the ring is cut. -/
structure AtF (l:List Pt) (k:Int) (m:Nat) (S1 S2 d1 d2:List Pt):Prop where
 nz:std.nz .rem (std.ib .sub .i64 (std.len Pt l) 3)
 q1:std.rng 0 (std.ib .add .i64 (std.ib .add .i64 2 (std.ib .rem .i64 (std.cv .i64 k) (std.ib .sub .i64 (std.len Pt l) 3))) 1) (std.len Pt l)
 s1:std.tk Pt l (std.ib .add .i64 (std.ib .add .i64 2 (std.ib .rem .i64 (std.cv .i64 k) (std.ib .sub .i64 (std.len Pt l) 3))) 1)=S1
 q2:std.rng (std.ib .add .i64 2 (std.ib .rem .i64 (std.cv .i64 k) (std.ib .sub .i64 (std.len Pt l) 3))) (std.len Pt l) (std.len Pt l)
 q3:std.rng 0 1 (std.len Pt l)
 cf:CatF (std.sb (std.len Pt l) (std.ib .add .i64 2 (std.ib .rem .i64 (std.cv .i64 k) (std.ib .sub .i64 (std.len Pt l) 3)))) 1
 cr:CatR (std.sb (std.len Pt l) (std.ib .add .i64 2 (std.ib .rem .i64 (std.cv .i64 k) (std.ib .sub .i64 (std.len Pt l) 3)))) 1 d1 d2 S2
 w1:d1=std.wnd Pt l (std.ib .add .i64 2 (std.ib .rem .i64 (std.cv .i64 k) (std.ib .sub .i64 (std.len Pt l) 3))) (std.sb (std.len Pt l) (std.ib .add .i64 2 (std.ib .rem .i64 (std.cv .i64 k) (std.ib .sub .i64 (std.len Pt l) 3))))
 w2:d2=std.tk Pt l 1
theorem atF_ex {l:List Pt} {k n:Int} (hn:n=(l.length:Int)) (h4:4<=n) (h14:n<=14) (k0:0<=k) (k1:k < 256):∃ m d1 d2,AtF l k m (l.take (m+1)) (l.drop m++l.take 1) d1 d2/\2<=m/\m+2<=l.length:=by
 have hln:std.len Pt l=n:=by rw [s_len,hn]
 have e1:std.ib .sub .i64 n 3=n - 3:=by rw [s_sub,w64 (by omega) (by omega)]
 have e2:std.cv .i64 k=k:=by rw [s_cv,w64 (by omega) (by omega)]
 have r0:0<=k.tmod (n - 3):=Int.tmod_nonneg _ k0
 have r1:k.tmod (n - 3) < n - 3:=by rw [Int.tmod_eq_emod_of_nonneg k0]; exact Int.emod_lt_of_pos _ (by omega)
 have e3:std.ib .rem .i64 k (n - 3)=k.tmod (n - 3):=s_rem _ _ _
 obtain ⟨r,hr⟩:∃ r,r=k.tmod (n - 3):=⟨_,rfl⟩
 rw [<-hr] at r0 r1 e3
 have e4:std.ib .add .i64 2 r=2+r:=by rw [s_add,w64 (by omega) (by omega)]
 have eT:(std.ib .add .i64 2 (std.ib .rem .i64 (std.cv .i64 k) (std.ib .sub .i64 (std.len Pt l) 3)))=2+r:=by rw [hln,e1,e2,e3,e4]
 have e5:std.ib .add .i64 (2+r) 1=3+r:=by rw [s_add,w64 (by omega) (by omega)]; omega
 obtain ⟨m,hm⟩:∃ m:Nat,(m:Int)=2+r:=⟨(2+r).toNat,by omega⟩
 refine ⟨m,l.drop m,l.take 1,⟨?_,?_,?_,?_,?_,?_,?_,?_,?_⟩,by omega,by omega⟩
 ·rw [hln,e1]; show n - 3 ≠ 0; omega
 ·rw [eT,e5,hln]; exact ⟨by omega,by omega,by omega⟩
 ·rw [eT,e5,s_tk]; congr 1; omega
 ·rw [eT,hln]; exact ⟨by omega,by omega,by omega⟩
 ·rw [hln]; exact ⟨by omega,by omega,by omega⟩
 ·rw [eT,hln]
  exact CatF.of (show 0<=n - (2+r) by omega) (by omega) (show 1<=n - (2+r)+1 by omega) (show n - (2+r)+1<=100000 by omega)
 ·exact CatR.of (by rw [List.length_drop,List.length_take]; omega)
 ·rw [eT,hln]
  show _=(l.drop (2+r).toNat).take (n - (2+r)).toNat
  rw [List.take_of_length_le (by rw [List.length_drop]; omega),show (2+r).toNat=m from by omega]
 ·rfl
theorem ringCentroids_con (l:List Pt) (hl:l.length<=maxLen) (v:Pt) (k:Int) (k0:0<=k) (k1:k < 256):Con Tryz.prog 4 [.ro cP l,.v v.v,.v (.int .u8 k)] (.v (.bool true)):=by
 have kf:=fine_q l hl
 have kg:=great1_con v
 obtain ⟨n,hn⟩:∃ n:Int,n=l.length:=⟨_,rfl⟩
 have hln:std.len Pt l=n:=by rw [s_len,hn]
 have tkl:std.tk Pt l (std.len Pt l)=l:=by rw [s_tk,s_len]; exact List.take_of_length_le (by omega)
 obtain ⟨fb,efb⟩:∃ r,r=fineB l:=⟨_,rfl⟩
 obtain ⟨gp,egp⟩:∃ r,r=bigC v:=⟨_,rfl⟩
 obtain ⟨ci,eci⟩:∃ r:Int,r=if canP v=true then 0 else 1:=⟨_,rfl⟩
 have kv:gp=false->Con Tryz.prog 25 [.v v.v] (.v (.int .i64 ci)):=fun h=>by
  have:=vchk_q (bigC_no (p:=v) (by rw [<-egp]; exact h)) (by decide)
  rw [<-eci] at this; exact this
 rw [<-efb] at kf
 rw [<-egp] at kg
 have hall:fb=true->gp=false->∃ A c d M,CtrG l A v c d M:=fun c1 c2=>ctrG_ex (by rw [<-efb]; exact c1) (by rw [<-egp]; exact c2)
 obtain ⟨i0,hi0⟩:∃ i:Int,i=0:=⟨_,rfl⟩
 clear efb egp eci hl
 refine Con.of ttOk mixed Tryz.func4 { ord:=[(11,[0,1,2,3,4,5,6,7,8,9,10,11,12,13,14,15,16,17,18,19,20]),(14,[0,1,2,3,4,5,6,7,8,9,10,11,12]),(20,[0,1,2,3,4,5,6,7,8,9,10,11,12]),(26,[0,1,4,5,9,10,2,3,6,7,8,11,12,13,14,15,16,17])] } cat_ok 3 (by kernel_rfl) (fun P' E hP hE=>?_)
 cbv
 refine CallTo.w hP hE kf ⟨(by subst hE; exact Sm.of (c:=cP) tkl),trivial⟩ ?_
 cbv
 refine fork.mk ?_ ?_
 ·intro g
  cbv
  refine awake10_c hP hE ?_
  cbv
 intro g
 have c1:fb=true:=by subst hE; simpa [std] using g
 clear g
 cbv
 refine CallTo.w hP hE kg ⟨rfl,trivial⟩ ?_
 cbv
 refine fork.mk ?_ ?_
 ·intro g
  cbv
  refine awake10_c hP hE ?_
  cbv
 intro g
 have c2:gp=false:=by simpa using g
 clear g
 have kv:=kv c2
 cbv
 refine CallTo.w hP hE kv ⟨rfl,trivial⟩ ?_
 cbv
 refine fork.mk ?_ ?_
 ·intro g
  cbv
  refine awake10_c hP hE ?_
  cbv
 intro g
 clear g
 have hall:=hall c1 c2
 cbv
 refine Exists.elim hall ?_
 intro A h
 refine Exists.elim h ?_
 intro c h
 refine Exists.elim h ?_
 intro d h
 refine Exists.elim h ?_
 intro M hG
 have kc:=hG.kc
 have kd:=hG.kd
 have ka:=hG.ka
 have hn:n=(l.length:Int):=hn
 have h3:=hG.fine.h3
 have h14:=hG.fine.h14
 have hAl:=hG.fine.len
 have hmk:std.rng 0 (std.len Pt l) (std.len Pt l)/\std.fits (std.len Pt l) 80:=by
  rw [hln,s_rng,s_fits]
  show (0<=(0:Int)/\0<=n/\n<=n)/\0<=n/\n<=_/\n*80<=_
  omega
 obtain ⟨o0,ho0⟩:∃ l:List Pt,l=List.replicate n.toNat zQ:=⟨_,rfl⟩
 have hrep:std.rep Pt (std.len Pt l) zQ=o0:=by rw [s_rep,hln,ho0]
 have hp0:CtrI A v.q n i0 o0 true:=⟨by omega,by omega,by rw [ho0,List.length_replicate],by rw [hi0]; rfl,by rw [hi0]; rfl⟩
 have hrnd:∀ i out cv,CtrI A v.q n i out cv->i < n->∃ j p q out' r1 i2 r2 p1 p2 m cb,CtrF A l v n i out cv j p q out' r1 i2 r2 p1 p2 m cb:=fun i out cv h h'=>ctrF_ex hG.fine hG.iv hn h h'
 have hfin:∀ i out cv,CtrI A v.q n i out cv->¬ i < n->std.tk Pt out (std.len Pt l)=M/\(cv=true->(List.range A.length).all (lftQ A)=true):=fun i out cv h h'=>by
  have h2:=h.h1
  have h4:=h.ol
  have h5:=h.eq
  have h6:=h.cv
  have ei:i.toNat=A.length:=by omega
  rw [List.take_of_length_le (by omega),List.take_of_length_le (by rw [List.length_map]; omega)] at h5
  rw [ei] at h6
  refine ⟨?_,fun h=>by rw [<-h6]; exact h⟩
  rw [s_tk,hln,List.take_of_length_le (by omega),h5,hG.mEq]
 have hcut:¬ n < 4->(List.range A.length).all (lftQ A)=true->∃ m S1 S2 d1 d2 a b x y s1 s2 s3 y1 y2 y3,AtF l k m S1 S2 d1 d2/\CtrH l c S1 S2 a b x y s1 s2 s3 y1 y2 y3:=fun h h'=>by
  obtain ⟨m,d1,d2,hat,hm2,hml⟩:=atF_ex (k:=k) hn (by omega) (by omega) k0 k1
  obtain ⟨S1,S2,a,b,x,y,s1,s2,s3,y1,y2,y3,hH,e1,e2⟩:=ctrH_ex hG h' hm2 (by omega)
  rw [<-e1,<-e2] at hat
  exact ⟨m,S1,S2,d1,d2,a,b,x,y,s1,s2,s3,y1,y2,y3,hat,hH⟩
 refine CallTo.w hP hE kc ⟨(by subst hE; exact Sm.of (c:=cP) tkl),trivial⟩ ?_
 cbv
 refine Need.mk (by subst hE; exact hmk) ?_
 cbv
 refine LoopTo.by (ι:=Int × List Pt × Bool) (fun x=>[(10,.v (.bool x.2.2)),(52,.v (.int .i64 x.1))]) (fun x=>[(5,.row true 33 cP x.2.1)]) (fun x=>CtrI A v.q n x.1 x.2.1 x.2.2) (fun x=>(n - x.1).toNat) (i0,o0,true) [] hp0 ?_ ?_
 ·cbv
  subst hE
  and_intros
  all_goals first
   | exact True.intro
   | rfl
   | exact vi hi0.symm
   | exact vj hi0.symm
   | exact Sm.of (c:=cP) hrep
   | (intro h; cases h; done)
   | (simp; done)
 ·rintro ⟨i,out,cv⟩ hI
  have hI:CtrI A v.q n i out cv:=hI
  clear hp0 hrep ho0 hi0
  cbv
  refine fork.mk ?_ ?_
  ·intro g
   have hlt:i < n:=by subst hE; rw [<-hln]; simpa [std] using g
   refine Exists.elim (hrnd i out cv hI hlt) ?_
   intro j h
   refine Exists.elim h ?_
   intro p h
   refine Exists.elim h ?_
   intro q h
   refine Exists.elim h ?_
   intro out' h
   refine Exists.elim h ?_
   intro r1 h
   refine Exists.elim h ?_
   intro i2 h
   refine Exists.elim h ?_
   intro r2 h
   refine Exists.elim h ?_
   intro p1 h
   refine Exists.elim h ?_
   intro p2 h
   refine Exists.elim h ?_
   intro m h
   refine Exists.elim h ?_
   intro cb hf
   have ecb:=hf.ecb
   have in1:=hf.in1
   have in2:=hf.in2
   have hadd:=hf.add
   have hg0:=hf.g0
   have kad:=hf.kad
   have hset:=hf.set
   have hnz:std.nz .rem (std.len Pt l):=by rw [hln]; exact hf.nz
   have e1:std.ib .rem .i64 (std.ib .add .i64 i 1) (std.len Pt l)=r1:=by rw [hln,hf.add]; exact hf.e1
   have e2:std.ib .rem .i64 (std.ib .add .i64 i 2) (std.len Pt l)=r2:=by rw [hln,hf.a2]; exact hf.e2
   have n1:0<=std.ib .rem .i64 (std.ib .add .i64 i 1) (std.len Pt l)/\std.ib .rem .i64 (std.ib .add .i64 i 1) (std.len Pt l) < (l.length:Int):=by rw [e1]; exact hf.n1
   have n2:0<=std.ib .rem .i64 (std.ib .add .i64 i 2) (std.len Pt l)/\std.ib .rem .i64 (std.ib .add .i64 i 2) (std.len Pt l) < (l.length:Int):=by rw [e2]; exact hf.n2
   have hg1:std.get Pt l (std.ib .rem .i64 (std.ib .add .i64 i 1) (std.len Pt l)) zQ=p1:=by rw [e1]; exact hf.g1
   have hg2:std.get Pt l (std.ib .rem .i64 (std.ib .add .i64 i 2) (std.len Pt l)) zQ=p2:=by rw [e2]; exact hf.g2
   have ko:=hf.ko
   have inv1:=hf.inv1
   have inv2:=hf.inv2
   have hmu:=hf.mu
   clear hf h hI hlt g hrnd hfin e1 e2
   cbv
   refine Need.mk (by subst hE; exact in1) ?_
   cbv
   refine CallTo.w hP hE kad ⟨(by subst hE; exact congrArg (fun p:Pt=>p.v) hg0),rfl,trivial⟩ ?_
   cbv
   refine Need.mk (by subst hE; exact in1) ?_
   cbv
   refine fork.mk ?_ ?_
   ·intro g
    have cc:cv=true:=by subst hE; simpa [std] using g
    have hinv:=inv1 cc
    cbv
    refine Need.mk (by subst hE; exact hnz) ?_
    cbv
    refine Need.mk (by subst hE; exact n1) ?_
    cbv
    refine Need.mk (by subst hE; exact hnz) ?_
    cbv
    refine Need.mk (by subst hE; exact n2) ?_
    cbv
    refine CallTo.w hP hE ko ⟨(by subst hE; exact congrArg (fun p:Pt=>p.v) hg0),(by subst hE; exact congrArg (fun p:Pt=>p.v) hg1),(by subst hE; exact congrArg (fun p:Pt=>p.v) hg2),trivial⟩ ?_
    cbv
    refine ⟨(j,out',cb),[0,1,2,3,4,5],hinv,hmu,?_⟩
    cbv
    subst hE
    and_intros
    all_goals first
     | exact True.intro
     | rfl
     | exact vi hadd
     | exact vj hadd
     | exact Sm.of (c:=cP) hset
     | exact congrArg (fun x=>AV.v (Value.bool x)) ecb
     | exact congrArg (fun x=>Value.bool x) ecb
     | (intro h; cases h; done)
     | (simp [cc]; done)
   ·intro g
    have cc:cv=false:=by subst hE; simpa [std] using g
    have hinv:=inv2 cc
    cbv
    refine ⟨(j,out',false),[0,1,2,3,4,5],hinv,hmu,?_⟩
    cbv
    subst hE
    and_intros
    all_goals first
     | exact True.intro
     | rfl
     | exact vi hadd
     | exact vj hadd
     | exact Sm.of (c:=cP) hset
     | (intro h; cases h; done)
     | (simp [cc]; done)
  ·intro g
   have hge:¬ i < n:=by subst hE; rw [<-hln]; simpa [std] using g
   have ho:=hfin i out cv hI hge
   have hM:=ho.1
   have hcv:=ho.2
   clear hrnd hfin hI hge g ho
   cbv
   refine CallTo.w hP hE kd ⟨(by subst hE; exact Sm.of (c:=cP) hM),trivial⟩ ?_
   cbv
   refine forkNo (by subst hE; rfl) ?_
   cbv
   refine forkNo (by subst hE; rfl) ?_
   cbv
   refine CallTo.w hP hE ka ⟨rfl,rfl,trivial⟩ ?_
   cbv
   refine forkNo (by subst hE; exact congrArg (fun b => !b) ((eqc_P d d).2 rfl)) ?_
   cbv
   refine fork.mk ?_ ?_
   ·intro g
    cbv
    refine awake10_c hP hE ?_
    cbv
   intro g
   have cc:cv=true:=by subst hE; simpa [std] using g
   have hcv:=hcv cc
   clear g
   cbv
   refine fork.mk ?_ ?_
   ·intro g
    cbv
    refine awake10_c hP hE ?_
    cbv
   intro g
   have h4:¬ n < 4:=by subst hE; rw [<-hln]; simpa [std] using g
   clear g
   refine Exists.elim (hcut h4 hcv) ?_
   intro m h
   refine Exists.elim h ?_
   intro S1 h
   refine Exists.elim h ?_
   intro S2 h
   refine Exists.elim h ?_
   intro d1 h
   refine Exists.elim h ?_
   intro d2 h
   refine Exists.elim h ?_
   intro a h
   refine Exists.elim h ?_
   intro b h
   refine Exists.elim h ?_
   intro x h
   refine Exists.elim h ?_
   intro y h
   refine Exists.elim h ?_
   intro s1 h
   refine Exists.elim h ?_
   intro s2 h
   refine Exists.elim h ?_
   intro s3 h
   refine Exists.elim h ?_
   intro y1 h
   refine Exists.elim h ?_
   intro y2 h
   refine Exists.elim h ?_
   intro y3 hf
   have hA:=hf.1
   have hB:=hf.2
   have bnz:=hA.nz
   have bq1:=hA.q1
   have bs1:=hA.s1
   have bq2:=hA.q2
   have bq3:=hA.q3
   have f1:=hA.cf.f1
   have f2:=hA.cf.f2
   have f3:=hA.cf.f3
   have r3:=hA.cf.r3
   have r4:=hA.cf.r4
   have t1:=hA.cr.t1
   have t2:=hA.cr.t2
   have hrow:=hA.cr.row
   have htk:=hA.cr.tk
   have hw1:=hA.w1
   have hw2:=hA.w2
   have kca:=hB.ka
   have kcb:=hB.kb
   have kx:=hB.kx
   have ky:=hB.ky
   have ks:=hB.ks
   have ar1:=hB.k1
   have ar2:=hB.k2
   have ar3:=hB.k3
   have v1:=hB.v1
   have v2:=hB.v2
   have v3:=hB.v3
   have v4:=hB.v4
   have ta:=hB.ta
   have tb:=hB.tb
   have hS2:std.tk Pt (std.app Pt (std.tk Pt (std.app Pt (std.tk Pt (std.rep Pt (std.ib .sub .i64 (std.ib .add .i64 (std.ib .add .i64 0 (std.sb (std.len Pt l) (std.ib .add .i64 2 (std.ib .rem .i64 (std.cv .i64 k) (std.ib .sub .i64 (std.len Pt l) 3))))) 1) 0) zQ) 0) d1) (std.ad 0 (std.len Pt d1))) d2) (std.ad (std.ad 0 (std.len Pt d1)) (std.len Pt d2))=S2:=(congrArg (fun z=>std.tk Pt z (std.ad (std.ad 0 (std.len Pt d1)) (std.len Pt d2))) hrow).trans htk
   clear hA hB hf h hcut hcv hrow htk
   cbv
   refine Need.mk (by subst hE; exact bnz) ?_
   cbv
   refine Need.mk (by subst hE; exact bq1) ?_
   cbv
   refine CallTo.con hP hE kca ⟨(by subst hE; exact Sm.of (c:=cP) bs1),trivial⟩ ?_
   cbv
   refine Need.mk (by subst hE; exact bq2) ?_
   cbv
   refine Need.mk (by subst hE; exact bq3) ?_
   cbv
   refine forkNo (by subst hE; exact f1) ?_
   cbv
   refine forkNo (by subst hE; exact f2) ?_
   cbv
   refine forkNo (by subst hE; exact f2) ?_
   cbv
   refine forkYes (by subst hE; exact f3) ?_
   cbv
   refine Need.mk (by subst hE; and_intros<;>exact Int.le_refl _) ?_
   cbv
   refine Need.mk (by subst hE; exact r3) ?_
   cbv
   refine Need.mk (by subst hE; exact r4) ?_
   cbv
   refine ⟨d1,(by subst hE; exact Sm.of (c:=cP) hw1),?_⟩
   cbv
   refine Need.mk (by subst hE; exact t1) ?_
   cbv
   refine ⟨d2,(by subst hE; exact Sm.of (c:=cP) hw2),?_⟩
   cbv
   refine Need.mk (by subst hE; exact t2) ?_
   cbv
   refine CallTo.con hP hE kcb ⟨(by subst hE; exact Sm.of (c:=cP) hS2),trivial⟩ ?_
   cbv
   refine CallTo.w hP hE kx ⟨(by subst hE; exact Sm.of (c:=cP) ta),trivial⟩ ?_
   cbv
   refine CallTo.w hP hE ky ⟨(by subst hE; exact Sm.of (c:=cP) tb),trivial⟩ ?_
   cbv
   refine CallTo.w hP hE ks ⟨(by subst hE; exact Sm.of (c:=cP) tkl),rfl,trivial⟩ ?_
   cbv
   refine forkNo (by subst hE; rfl) ?_
   cbv
   refine forkNo (by subst hE; rfl) ?_
   cbv
   refine forkNo (by subst hE; rfl) ?_
   cbv
   refine forkNo (by subst hE; rfl) ?_
   cbv
   refine forkNo (by subst hE; rfl) ?_
   cbv
   refine forkNo (by subst hE; rfl) ?_
   cbv
   refine CallTo.w hP hE ar1 ⟨(by subst hE; exact Sm.of (c:=cP) ta),trivial⟩ ?_
   cbv
   refine CallTo.w hP hE v1 ⟨rfl,rfl,trivial⟩ ?_
   cbv
   refine CallTo.w hP hE ar2 ⟨(by subst hE; exact Sm.of (c:=cP) tb),trivial⟩ ?_
   cbv
   refine CallTo.w hP hE v2 ⟨rfl,rfl,trivial⟩ ?_
   cbv
   refine CallTo.w hP hE v3 ⟨rfl,rfl,trivial⟩ ?_
   cbv
   refine CallTo.w hP hE ar3 ⟨(by subst hE; exact Sm.of (c:=cP) tkl),trivial⟩ ?_
   cbv
   refine CallTo.w hP hE v4 ⟨rfl,rfl,trivial⟩ ?_
   cbv
   refine forkYes (by subst hE; exact (eqc_P y3 y3).2 rfl) ?_
   cbv
   refine awake10_c hP hE ?_
   cbv
end Go.Proofs.YtkipmmiiackdaaaGreat.Sx
namespace Go.Proofs.YtkipmmiiackdaaaGreat.ringCentroids
open Go.ChangeShapes Go.WideShapes Go.ChangeAt Go.RowKit Go.Proofs.YtkipmmiiackdaaaGreat.Sx
set_option maxRecDepth 100000 in
theorem lifted (os:Os) (started:os.Started) (H:Type) (enc:TypeId × Value->H) :
  ReturnsInHanded {} Tryz.checked os 4 .any (Rows.ringCentroidsSpec.pre6 enc Tryz.prog Tryz.f4 Rows.ringCentroidsRow.domain false) (Rows.ringCentroidsSpec.post enc Tryz.prog Tryz.f4 false true false false):=by
 refine returnsInHanded_of_change_sized (C:=Tryz.checked) own' started (by kernel_rfl) Tryz.func4
  (ChangeSpec.witness6 (enc:=enc) (C:=Tryz.checked) false ⟨#[],#[.slice none 0 0,.agg #[.bool false,.string ByteArray.empty,.string ByteArray.empty,.bool false,.string ByteArray.empty,.string ByteArray.empty],.int .u8 0],[]⟩ 8 (by kernel_rfl) (by kernel_rfl) (by kernel_rfl) (by kernel_rfl)) ?_
 intro W base args ds gs before hval0 hW hcnd hsz0 _
 have hval:∀ (j:Nat) t v,Tryz.f4.params[j]?=some t->args[j]?=some v->Value.okWide Tryz.prog W .any base t v:=hval0
 have hW':=hW
 obtain ⟨p,q,hA0,hV,rfl,hfz,hnd⟩:=hW
 have hA:DataW.TrodAll enc Tryz.prog W 0 (fun _=>true) true Tryz.f4.params.toList args.toList ds p:=hA0
 rw [Tryz.params4] at hA hval
 obtain ⟨v0,vs0,d0,ds0,p0,q0,hargs,rfl,rfl,h0,r0⟩:=trodAll_cons hA
 obtain ⟨v1,vs1,d1,ds1,p1,q1,rfl,rfl,rfl,h1,r1⟩:=trodAll_cons r0
 obtain ⟨v2,vs2,d2,ds2,p2,q2,rfl,rfl,rfl,h2,r2⟩:=trodAll_cons r1
 obtain ⟨rfl,rfl,rfl⟩:=trodAll_nil r2
 obtain rfl:args=#[v0,v1,v2]:=by cases args; simp_all
 obtain ⟨rfl,rfl⟩:=trodVars_none hV
 obtain ⟨a0,o0,k0,rfl,le0,ml0,rd0⟩:=open_L (hval 0 22 v0 rfl rfl) h0
 have lt0:=trod_lt' h0
 obtain ⟨a1,rfl⟩:=open_P (hval 1 33 v1 rfl rfl) h1
 have lt1:=trod_lt' h1
 obtain ⟨a2,rfl,lo2,hi2⟩:=open_U (hval 2 5 v2 rfl rfl) h2
 have lt2:=trod_lt' h2
 clear hA0 hval0 hsz0
 obtain ⟨_,hc⟩:=(ringCentroids_con a0 (Nat.le_trans le0 ml0) a1 a2 lo2 hi2).out W #[.slice o0 a0.length k0,a1.v,.int .u8 a2] (by simp only [T.ats,T.at]; exact ⟨_,_,rfl,⟨cP_ok,_,_,rfl,le0,rd0,fun _ _=>Nat.zero_le _⟩,⟨_,_,rfl,rfl,⟨_,_,rfl,rfl,rfl⟩⟩⟩)
 refine hc.mono fun e W' he=>?_
 obtain ⟨v,rfl,hv,bel⟩:=he
 simp only [T.at] at hv
 subst hv
 exact ⟨_,rfl,_,_,_,[],_,[],hW',trodAll_mk1 (shut_bool Tryz.underlying4 _),(trodAll_cons_mk (Below.trod laidOut' (by kernel_rfl) (of_decide_eq_true (by kernel_rfl)) h0 bel lt0) (trodAll_cons_mk (Below.trod laidOut' (by kernel_rfl) (of_decide_eq_true (by kernel_rfl)) h1 bel lt1) (trodAll_cons_mk (Below.trod laidOut' (by kernel_rfl) (of_decide_eq_true (by kernel_rfl)) h2 bel lt2) trodAll_mk0))),rfl,bel.frame _,fun h=>by cases h⟩
end Go.Proofs.YtkipmmiiackdaaaGreat.ringCentroids
