/- Part 25 of what the statement needs: an executor of Go texts, arithmetic, and contracts of the functions that are called. -/
import Derived.Test.YtkipmmiiackdaaaGreatCi16
import Derived.Test.YtkipmmiiackdaaaGreatCi22
import Derived.Test.YtkipmmiiackdaaaGreatCi23
import Derived.Test.YtkipmmiiackdaaaGreatCi24
set_option linter.unusedSimpArgs false
set_option linter.unusedVariables false
set_option maxHeartbeats 8000000
set_option maxRecDepth 100000
namespace Go.Proofs.YtkipmmiiackdaaaGreat.Sx
open Env (std)
/-- The turn at h, behind which the vertices of l follow. -/
def turnV (h:Pq) (l:List Pq):Rat:=crs (endP h l) h (l.headD h)
theorem head_app (x:List Pq) (q:Pq) (t:List Pq) (d:Pq):(x++q::t).headD d=(x++[q]).headD d:=by
 cases x<;>rfl
theorem turn_app (h:Pq) (x:List Pq) (q:Pq) (t:List Pq) (p:Pq) (y:List Pq):turnV h (x++q::t++p::y)=crs (endP p y) h ((x++[q]).headD h):=by
 unfold turnV
 rw [end_app,List.append_assoc]
 show crs _ h ((x++q::(t++p::y)).headD h)=_
 rw [head_app]
theorem turn_app0 (h:Pq) (p:Pq) (y:List Pq):turnV h (p::y)=crs (endP p y) h p:=rfl
theorem path_start {u:Pq}:∀ {p:Pq} {s:List Pq} {z:Pq},z ∈ p::s->∃ e ∈ pathE p (s++[u]),e.a=z
 | p,[],z,h=>⟨⟨p,u⟩,by simp [pathE],(List.mem_singleton.1 h).symm⟩
 | p,q::r,z,h=>by
  rcases List.mem_cons.1 h with rfl | h
  ·exact ⟨⟨z,q⟩,by simp [pathE],rfl⟩
  ·obtain ⟨e,he,h2⟩:=path_start (u:=u) h
   exact ⟨e,List.mem_cons_of_mem _ he,h2⟩
theorem least_of (f:Pq->Rat) (p:Pq->Prop):∀ (l:List Pq),(∃ q ∈ l,p q)->∃ z ∈ l,p z/\∀ q ∈ l,p q->f z<=f q
 | [],h=>by obtain ⟨q,h,_⟩:=h; cases h
 | x::l,h=>by
  by_cases c:∃ q ∈ l,p q
  ·obtain ⟨z,hz,pz,hm⟩:=least_of f p l c
   by_cases c2:p x/\f x<=f z
   ·refine ⟨x,by simp,c2.1,fun q hq pq=>?_⟩
    rcases List.mem_cons.1 hq with rfl | hq
    ·exact Rat.le_refl
    ·exact Rat.le_trans c2.2 (hm q hq pq)
   ·refine ⟨z,List.mem_cons_of_mem _ hz,pz,fun q hq pq=>?_⟩
    rcases List.mem_cons.1 hq with rfl | hq
    ·apply Classical.byContradiction
     intro hn
     exact c2 ⟨pq,by grind⟩
    ·exact hm q hq pq
  ·obtain ⟨q,hq,pq⟩:=h
   refine ⟨x,by simp,?_,fun q' hq' pq'=>?_⟩
   ·rcases List.mem_cons.1 hq with rfl | hq
    ·exact pq
    ·exact absurd ⟨q,hq,pq⟩ c
   ·rcases List.mem_cons.1 hq' with rfl | hq'
    ·exact Rat.le_refl
    ·exact absurd ⟨q',hq',pq'⟩ c
/-- A vertex in the triangle lies strictly within the corner. -/
theorem tri_strict {v w u z:Pq} {s:List Pq} (hv:Vwu v w u s) (hD:crs v u w ≠ 0) (hz:z ∈ s) (ht:0<=kA v u w z/\0<=kB v u w z/\kA v u w z+kB v u w z<=1):0 < kA v u w z/\0 < kB v u w z:=by
 obtain ⟨e,he,ea⟩:=path_start (u:=u) (List.mem_cons_of_mem w hz)
 have oz:OnS e z:=ea ▸ at_on.1
 have zv:z ≠ v:=hv.vs z (by simp [hz])
 constructor
 ·apply Classical.byContradiction
  intro c
  have k0:kA v u w z=0:=by grind
  rcases hv.r1 e he z (on_vw hD k0 ht.2.1 (by grind)) oz with ⟨_,g⟩ | ⟨g,_⟩
  ·exact hv.ws z (by simp [hz]) g
  ·exact hv.vs e.b (List.mem_cons_of_mem _ (path_mem he).2) g
 ·apply Classical.byContradiction
  intro c
  have k0:kB v u w z=0:=by grind
  rcases hv.r4 e he z oz (on_uv hD k0 ht.1 (by grind)) with ⟨_,g⟩ | ⟨g,_⟩
  ·exact hv.nd e he (ea.trans g)
  ·exact zv (ea.symm.trans g.symm)
/-- Such a vertex is not extreme. -/
theorem tri_not {v w u z:Pq} {s l:List Pq} (hv:Vwu v w u s) (hD:crs v u w ≠ 0) (hz:z ∈ s) (za:0 < kA v u w z) (zb:0 < kB v u w z) (zs:kA v u w z+kB v u w z<=1) (mv:v ∈ l) (mu:u ∈ l) (mw:w ∈ l):¬ Xtr z l:=by
 rintro ⟨d,e,hc,hq⟩
 have zv:z ≠ v:=hv.vs z (by simp [hz])
 have zw:z ≠ w:=hv.ws z (by simp [hz])
 have zu:z ≠ u:=hv.us z hz
 have s1:=((hq u mu zu.symm).scale za).add ((hq w mw zw.symm).scale zb)
 have hk:=k_pt hD z
 by_cases c:kA v u w z+kB v u w z=1
 ·exact s1.ne (Pq.ext' (by simp only [Pq.add,Pq.scale,Pq.sub]; have:=hk.1; show _=(0:Rat); grind) (by simp only [Pq.add,Pq.scale,Pq.sub]; have:=hk.2; show _=(0:Rat); grind))
 ·have s2:=s1.add ((hq v mv zv.symm).scale (show 0 < 1 - (kA v u w z+kB v u w z) by grind))
  exact s2.ne (Pq.ext' (by simp only [Pq.add,Pq.scale,Pq.sub]; have:=hk.1; show _=(0:Rat); grind) (by simp only [Pq.add,Pq.scale,Pq.sub]; have:=hk.2; show _=(0:Rat); grind))
theorem area_ear (v w u:Pq) (s:List Pq):areaQ (v::w::(s++[u]))=areaQ (w::(s++[u]))+crs u v w / ((2:Int):Rat):=by
 unfold areaQ
 rw [edges_vwu,edges_wu,sumE_cons,sumE_app,sumE_app,sumE_cons,sumE_cons]
 have:crE ⟨v,w⟩+crE ⟨u,v⟩=crE ⟨u,w⟩+crs u v w:=by simp only [crE,crs,Pq.cross,Pq.sub]; grind
 have e0:sumE crE []=0:=rfl
 rw [e0,Rat.div_def,Rat.div_def,Rat.div_def]
 grind
/-- For polygons of fewer than N vertices the turn at an extreme vertex has the sign of the area. -/
def Cl (N:Nat):Prop:=∀ (a:List Pq) (h:Pq) (b:List Pq),(a++h::b).length < N->Smp (a++h::b)->Xtr h (a++h::b)->0 < turnV h (b++a)*areaQ (a++h::b)
theorem step1 {N:Nat} (ih:Cl N) {v w u:Pq} {s:List Pq} (hN:(v::w::(s++[u])).length<=N) (h:Smp (v::w::(s++[u]))) (he:Xtr v (v::w::(s++[u]))) (hs:s ≠ []) :
  ∃ c:Rat,(∀ a g b,w::(s++[u])=a++g::b->Xtr g (v::w::(s++[u]))->0 < turnV g (b++v::a)*c)/\(0 < crs u v w*areaQ (v::w::(s++[u]))\/areaQ (v::w::(s++[u]))=c+crs u v w / ((2:Int):Rat)):=by
 have hv:=vwu_of h
 have hD:crs v u w ≠ 0:=turn_ne he (by simp) (by simp) hv.uv hv.vw.symm hv.r2.symm
 by_cases hin:∃ q ∈ s,0<=kA v u w q/\0<=kB v u w q/\kA v u w q+kB v u w q<=1
 ·obtain ⟨z,hz,tz,hm⟩:=least_of (fun q=>kA v u w q+kB v u w q) _ s hin
  obtain ⟨za,zb⟩:=tri_strict hv hD hz tz
  have hnx:=tri_not (l:=v::w::(s++[u])) hv hD hz za zb tz.2.2 (by simp) (by simp) (by simp)
  obtain ⟨s1,s2,rfl⟩:=List.append_of_mem hz
  have hcut:=smp_cut h hD za zb tz.2.2 (fun q hq q1 q2 q3=>hm q hq ⟨Rat.le_of_lt q1,Rat.le_of_lt q2,Rat.le_of_lt q3⟩)
  have ez1:=crs_z1 (z:=z) hD
  have ez2:=crs_z2 (z:=z) hD
  have l1:(v::w::(s1++[z])).length < N:=by simp at hN ⊢; omega
  have l2:(v::z::(s2++[u])).length < N:=by simp at hN ⊢; omega
  have m1:∀ q ∈ v::w::(s1++[z]),q ∈ v::w::(s1++z::s2++[u]):=by
   intro q hq; simp at hq ⊢; grind
  have m2:∀ q ∈ v::z::(s2++[u]),q ∈ v::w::(s1++z::s2++[u]):=by
   intro q hq; simp at hq ⊢; grind
  have c1:=ih [] v (w::(s1++[z])) l1 hcut.1 (he.sub m1)
  have c2:=ih [] v (z::(s2++[u])) l2 hcut.2 (he.sub m2)
  have t1:turnV v (w::(s1++[z])++[])=kA v u w z*crs u v w:=by
   rw [List.append_nil,turn_app0,end_snoc]; exact ez1
  have t2:turnV v (z::(s2++[u])++[])=kB v u w z*crs u v w:=by
   rw [List.append_nil,turn_app0,end_snoc]; exact ez2
  rw [t1] at c1
  rw [t2] at c2
  simp only [List.nil_append] at c1 c2
  have pos:∀ {k x:Rat},0 < k->0 < k*crs u v w*x->0 < crs u v w*x:=by
   intro k x hk hx
   apply Classical.byContradiction
   intro hn
   have:=Rat.mul_nonneg (Rat.le_of_lt hk) (show 0 <= -(crs u v w*x) by grind)
   grind
  have d1:=pos za c1
  have d2:=pos zb c2
  refine ⟨crs u v w,fun a g b hab hg=>?_,.inl ?_⟩
  ·have hab:(w::s1)++(z::(s2++[u]))=a++g::b:=by rw [<-hab]; simp
   rcases List.append_eq_append_iff.1 hab with ⟨a',ha,hx⟩ | ⟨c',hc,hx⟩
   ·cases a' with
    | nil=>injection hx with hx _; exact absurd (hx ▸ hg) hnx
    | cons z' a''=>
     injection hx with hx1 hx2
     subst hx1
     have e1:v::z::(s2++[u])=(v::z::a'')++g::b:=by rw [hx2]; rfl
     have c3:=ih (v::z::a'') g b (by rw [<-e1]; exact l2) (by rw [<-e1]; exact hcut.2) (by rw [<-e1]; exact hg.sub m2)
     rw [<-e1] at c3
     have e2:turnV g (b++v::a)=turnV g (b++v::z::a''):=by
      rw [ha]
      cases b with
      | nil=>
       show turnV g (v::(w::s1++z::a''))=turnV g (v::z::a'')
       rw [turn_app0,turn_app0]
       have:=end_app v (w::s1) z a''
       rw [this]; rfl
      | cons b0 b'=>
       have q1:=turn_app g [] b0 b' v (w::s1++z::a'')
       have q2:=turn_app g [] b0 b' v (z::a'')
       have:=end_app v (w::s1) z a''
       rw [this] at q1
       exact q1.trans q2.symm
     rw [e2]
     exact sgn_mul3 c3 d2
   ·cases c' with
    | nil=>
     simp at hx
     exact absurd (hx.1 ▸ hg) hnx
    | cons g' c''=>
     injection hx with hx1 hx2
     subst hx1
     have e1:v::w::(s1++[z])=(v::a)++g::(c''++[z]):=by
      have:w::(s1++[z])=a++g::(c''++[z]):=by
       have:=congrArg (·++[z]) hc
       simpa using this
      rw [this]; rfl
     have c3:=ih (v::a) g (c''++[z]) (by rw [<-e1]; exact l1) (by rw [<-e1]; exact hcut.1) (by rw [<-e1]; exact hg.sub m1)
     rw [<-e1] at c3
     have e2:turnV g (b++v::a)=turnV g (c''++[z]++v::a):=by
      rw [hx2]
      have q1:=turn_app g c'' z (s2++[u]) v a
      have q2:=turn_app g c'' z [] v a
      exact q1.trans q2.symm
     rw [e2]
     exact sgn_mul3 c3 d1
  ·have ha:=area_cut v (w::s1) z (s2++[u])
   have hr:areaQ (z::(s2++[u])++[v])=areaQ (v::z::(s2++[u])):=area_rot [v] (z::(s2++[u]))
   rw [hr] at ha
   have e3:v::(w::s1)++z::(s2++[u])=v::w::(s1++z::s2++[u]):=by simp
   rw [e3] at ha
   have e4:v::(w::s1)++[z]=v::w::(s1++[z]):=rfl
   rw [e4] at ha
   rw [<-ha]; grind
 ·have hout:∀ q ∈ s,¬ (0<=kA v u w q/\0<=kB v u w q/\kA v u w q+kB v u w q<=1):=fun q hq c=>hin ⟨q,hq,c⟩
  have hear:=smp_ear h hD hs hout
  refine ⟨areaQ (w::(s++[u])),fun a g b hab hg=>?_,.inr (area_ear v w u s)⟩
  have l1:(w::(s++[u])).length < N:=by simp at hN ⊢; omega
  have c3:=ih a g b (by rw [<-hab]; exact l1) (by rw [<-hab]; exact hear) (by rw [<-hab]; exact hg.sub (fun q hq=>List.mem_cons_of_mem _ hq))
  rw [<-hab] at c3
  -- the turn at g, with and without v
  have key:turnV g (b++v::a)=turnV g (b++a)\/0 < turnV g (b++v::a)*turnV g (b++a):=by
   cases a with
   | nil=>
    right
    injection hab with h1 h2
    subst h1
    subst h2
    obtain ⟨y,t,rfl⟩:∃ y t,s=y::t:=by
     cases s with
     | nil=>exact absurd rfl hs
     | cons y t=>exact ⟨y,t,rfl⟩
    have hD2:crs v w u ≠ 0:=by
     have:crs v w u = - crs v u w:=by simp only [crs,Pq.cross,Pq.sub]; grind
     rw [this]; grind
    have eM:(⟨w,y⟩:Sq) ∈ pathE w (y::t++[u]):=by simp [pathE]
    have kAB:kA v w u y=kB v u w y/\kB v w u y=kA v u w y:=by
     have hn:crs v w u = - crs v u w:=by simp only [crs,Pq.cross,Pq.sub]; grind
     obtain ⟨d,hd⟩:∃ d,d=(crs v u w)⁻¹:=⟨_,rfl⟩
     have hdm:crs v u w*d=1:=by rw [hd]; exact Rat.mul_inv_cancel _ hD
     have hinv:(crs v w u)⁻¹ = - d:=by
      have h1:crs v w u*(crs v w u)⁻¹=1:=Rat.mul_inv_cancel _ hD2
      rw [hn] at h1 ⊢
      generalize (-crs v u w)⁻¹=r at *
      have:(-(crs v u w)*r)*d=d:=by rw [h1]; grind
      grind
     unfold kA kB
     rw [Rat.div_def,Rat.div_def,Rat.div_def,Rat.div_def,hinv,<-hd]
     constructor
     ·simp only [crs,Pq.cross,Pq.sub]; grind
     ·simp only [crs,Pq.cross,Pq.sub]; grind
    have yu:y ≠ u:=hv.us y (by simp)
    have yw:y ≠ w:=hv.ws y (by simp)
    have r1:RelE ⟨y,w⟩ ⟨w,v⟩:=((hv.r1 _ eM).symm.rev:RelE (Sq.rev ⟨w,y⟩) (Sq.rev ⟨v,w⟩))
    have r2:RelE ⟨y,w⟩ ⟨v,u⟩:=((hv.r4 _ eM).rev:RelE (Sq.rev ⟨w,y⟩) (Sq.rev ⟨u,v⟩))
    have hk:=keep_turn hD2 hg (x:=y) (by simp) (by simp) (by simp) yw hv.vw hv.uw yu r1 r2 (by
     rw [kAB.1,kAB.2]
     rintro ⟨g1,g2,g3⟩
     exact hout y (by simp) ⟨g2,g1,by grind⟩)
    have q1:turnV w (y::t++[u]++[v])=crs v w y:=by
     unfold turnV
     rw [end_snoc]; rfl
    have q2:turnV w (y::t++[u]++[])=crs u w y:=by
     unfold turnV
     rw [List.append_nil,end_snoc]; rfl
    rw [q1,q2]
    have x1:=crs_anti v w y
    have x2:=crs_anti u w y
    rw [x1,x2] at hk
    grind
   | cons w' a'=>
    injection hab with h1 h2
    subst h1
    cases b with
    | nil=>
     right
     have hs2:s=a'/\u=g:=by
      have:=List.append_inj' h2 rfl
      exact ⟨this.1,by simpa using this.2⟩
     obtain ⟨rfl,rfl⟩:=hs2
     have q1:turnV u ([]++v::w::s)=crs (endP w s) u v:=rfl
     have q2:turnV u ([]++w::s)=crs (endP w s) u w:=rfl
     rw [q1,q2]
     have hx:endP w s ∈ s:=by
      obtain ⟨y,t,rfl⟩:∃ y t,s=y::t:=by
       cases s with
       | nil=>exact absurd rfl hs
       | cons y t=>exact ⟨y,t,rfl⟩
      show endP y t ∈ y::t
      rw [end_at]; exact at_mem (by simp)
     have eM:(⟨endP w s,u⟩:Sq) ∈ pathE w (s++[u]):=by rw [path_last]; simp
     exact keep_turn hD hg (by simp [hx]) (by simp) (by simp) (hv.us _ hx) hv.uv.symm hv.uw.symm (hv.ws _ (by simp [hx])) (hv.r4 _ eM) (hv.r1 _ eM).symm (hout _ hx)
    | cons b0 b'=>
     left
     have q1:=turn_app g [] b0 b' v (w::a')
     have q2:=turn_app g [] b0 b' w a'
     exact q1.trans q2.symm
  rcases key with c | c
  ·rw [c]; exact c3
  ·have c4:0 < areaQ (w::(s++[u]))*turnV g (b++a):=by grind
   exact sgn_mul3 c c4
/-- Beside an extreme vertex there are two more. -/
theorem two_ext {v u w:Pq} {l:List Pq} (he:Xtr v l) (mv:v ∈ l) (mu:u ∈ l) (mw:w ∈ l) (uv:u ≠ v) (wv:w ≠ v) (hD:crs v u w ≠ 0):∃ h h',h ∈ l/\h' ∈ l/\h ≠ v/\h' ≠ v/\h ≠ h'/\Xtr h l/\Xtr h' l:=by
 obtain ⟨d,e,hc,hq⟩:=he
 have hl:l ≠ []:=fun c=>by rw [c] at mv; cases mv
 obtain ⟨h,mh,hh⟩:=Lx.max hc l hl
 have hv:h ≠ v:=by
  intro c
  have l1:=hq w mw wv
  have l2:=hh w mw (fun c2=>wv (c2.trans c))
  rw [c] at l2
  exact (l1.add l2).ne (Pq.ext' (by simp only [Pq.add,Pq.sub]; show _=(0:Rat); grind) (by simp only [Pq.add,Pq.sub]; show _=(0:Rat); grind))
 obtain ⟨H,hH⟩:∃ H,H=h.sub v:=⟨_,rfl⟩
 have H0:H ≠ Pq.zero:=by rw [hH]; exact sub_ne hv
 have nH:0 < H.x*H.x+H.y*H.y:=by
  have q1:=sq_nn H.x
  have q2:=sq_nn H.y
  apply Classical.byContradiction
  intro hn
  have z1:H.x*H.x=0:=by grind
  have z2:H.y*H.y=0:=by grind
  apply H0
  refine Pq.ext' ?_ ?_
  ·rcases Rat.mul_eq_zero.1 z1 with c | c<;>exact c
  ·rcases Rat.mul_eq_zero.1 z2 with c | c<;>exact c
 have ex:∃ q0 ∈ l,crs v h q0 ≠ 0:=by
  apply Classical.byContradiction
  intro hn
  have a1:crs v h u=0:=Classical.byContradiction fun c=>hn ⟨u,mu,c⟩
  have a2:crs v h w=0:=Classical.byContradiction fun c=>hn ⟨w,mw,c⟩
  apply hD
  have e1:crs v h u=H.x*(u.y - v.y) - H.y*(u.x - v.x):=by rw [hH]; simp only [crs,Pq.cross,Pq.sub]
  have e2:crs v h w=H.x*(w.y - v.y) - H.y*(w.x - v.x):=by rw [hH]; simp only [crs,Pq.cross,Pq.sub]
  rw [e1] at a1
  rw [e2] at a2
  have e3:crs v u w*(H.x*H.x+H.y*H.y)=0:=by
   simp only [crs,Pq.cross,Pq.sub]
   generalize u.x - v.x=ux at *
   generalize u.y - v.y=uy at *
   generalize w.x - v.x=wx at *
   generalize w.y - v.y=wy at *
   have b1:(ux*wy - uy*wx)*H.x=0:=by
    have:(ux*wy - uy*wx)*H.x=ux*(H.x*wy - H.y*wx) - wx*(H.x*uy - H.y*ux):=by grind
    rw [this,a1,a2]; grind
   have b2:(ux*wy - uy*wx)*H.y=0:=by
    have:(ux*wy - uy*wx)*H.y=uy*(H.x*wy - H.y*wx) - wy*(H.x*uy - H.y*ux):=by grind
    rw [this,a1,a2]; grind
   have:(ux*wy - uy*wx)*(H.x*H.x+H.y*H.y)=(ux*wy - uy*wx)*H.x*H.x+(ux*wy - uy*wx)*H.y*H.y:=by grind
   rw [this,b1,b2]; grind
  rcases Rat.mul_eq_zero.1 e3 with c | c
  ·exact c
  ·exact absurd c (by grind)
 obtain ⟨q0,mq0,hq0⟩:=ex
 -- the normal, towards q0
 obtain ⟨g,hg,hgd,hgH,hgc⟩:∃ g:Pq,0 < g.dot (q0.sub v)/\g.dot (h.sub v)=0/\g.cross H ≠ 0/\True:=by
  by_cases c:0 < crs v h q0
  ·refine ⟨⟨-H.y,H.x⟩,?_,?_,?_,trivial⟩
   ·have:(⟨-H.y,H.x⟩:Pq).dot (q0.sub v)=crs v h q0:=by rw [hH]; simp only [crs,Pq.cross,Pq.sub,Pq.dot]; grind
    rw [this]; exact c
   ·rw [hH]; simp only [Pq.dot,Pq.sub]; grind
   ·simp only [Pq.cross]; grind
  ·refine ⟨⟨H.y,-H.x⟩,?_,?_,?_,trivial⟩
   ·have:(⟨H.y,-H.x⟩:Pq).dot (q0.sub v) = - crs v h q0:=by rw [hH]; simp only [crs,Pq.cross,Pq.sub,Pq.dot]; grind
    rw [this]; grind
   ·rw [hH]; simp only [Pq.dot,Pq.sub]; grind
   ·simp only [Pq.cross]; grind
 obtain ⟨h',mh',hh'⟩:=Lx.max hgH l hl
 have big:0 < g.dot (h'.sub v):=by
  by_cases c:q0=h'
  ·rw [<-c]; exact hg
  ·have:=hh' q0 mq0 c
   have e1:g.dot (h'.sub v)=g.dot (h'.sub q0)+g.dot (q0.sub v):=by simp only [Pq.dot,Pq.sub]; grind
   rcases this with c1 | ⟨c1,_⟩<;>grind
 have z:g.dot (v.sub v)=0:=by simp only [Pq.dot,Pq.sub]; grind
 refine ⟨h,h',mh,mh',hv,fun c=>?_,fun c=>?_,ext_max hc hh,ext_max hgH hh'⟩
 ·rw [c,z] at big; exact absurd big (by decide)
 ·rw [<-c,hgd] at big; exact absurd big (by decide)
theorem three_form {v:Pq} {r:List Pq} (h:Smp (v::r)):∃ w s u,r=w::(s++[u]):=by
 have h3:=h.n3
 match r,h3 with
 | w::y::t,_=>
  exact ⟨w,(y::t).dropLast,(y::t).getLast (by simp),by rw [List.dropLast_concat_getLast]⟩
theorem half2 (x:Rat):x / ((2:Int):Rat)*2=x:=Rat.div_mul_cancel (by decide)
/-- A polygon whose first vertex is extreme. -/
theorem first_sign {N:Nat} (ih:Cl N) {v:Pq} {r:List Pq} (hN:(v::r).length<=N) (h:Smp (v::r)) (he:Xtr v (v::r)):0 < turnV v r*areaQ (v::r):=by
 obtain ⟨w,s,u,rfl⟩:=three_form h
 have hv:=vwu_of h
 have hD:crs v u w ≠ 0:=turn_ne he (by simp) (by simp) hv.uv hv.vw.symm hv.r2.symm
 have hT:turnV v (w::(s++[u]))=crs u v w:=by rw [turn_app0,end_snoc]
 have hT0:crs u v w ≠ 0:=by rw [crs_vu]; grind
 have hTT:0 < crs u v w*crs u v w:=by
  have:=sq_nn (crs u v w)
  have hne:crs u v w*crs u v w ≠ 0:=fun c=>by rcases Rat.mul_eq_zero.1 c with c | c<;>exact hT0 c
  grind
 have fin:∀ c:Rat,0<=crs u v w*c->areaQ (v::w::(s++[u]))=c+crs u v w / ((2:Int):Rat)->0 < crs u v w*areaQ (v::w::(s++[u])):=by
  intro c hc e
  have h2:=half2 (crs u v w)
  rw [e]
  generalize crs u v w / ((2:Int):Rat)=k at *
  have:crs u v w*k*2=crs u v w*crs u v w:=by grind
  grind
 rw [hT]
 by_cases hs:s=[]
 ·subst hs
  have e:=area_ear v w u []
  have e2:areaQ (w::([]++[u]))=0:=by
   unfold areaQ
   rw [edges_wu]
   show sumE crE [⟨w,u⟩,⟨u,w⟩] / _=0
   rw [sumE_cons,sumE_cons]
   have:crE ⟨w,u⟩+(crE ⟨u,w⟩+sumE crE [])=0:=by
    show _+(_+(0:Rat))=0
    simp only [crE,Pq.cross]; grind
   rw [this,Rat.div_def,Rat.zero_mul]
  rw [e2] at e
  exact fin 0 (by rw [Rat.mul_zero]; exact Rat.le_refl) e
 ·obtain ⟨c,hc,hor⟩:=step1 ih hN h he hs
  rcases hor with hor | hor
  ·exact hor
  ·-- two more extreme vertices
   obtain ⟨g,g',mg,mg',gv,gv',gg,xg,xg'⟩:=two_ext he (u:=u) (w:=w) (by simp) (by simp) (by simp) hv.uv hv.vw.symm hD
   have hg:g ∈ w::(s++[u]):=by
    rcases List.mem_cons.1 mg with c | c
    ·exact absurd c gv
    ·exact c
   have hg':g' ∈ w::(s++[u]):=by
    rcases List.mem_cons.1 mg' with c | c
    ·exact absurd c gv'
    ·exact c
   obtain ⟨x,y,hxy⟩:=List.append_of_mem hg'
   -- the polygon from g' on
   have hrot:Smp (g'::(y++v::x)):=by
    have h9:Smp ((v::x)++(g'::y)):=by
     have:(v::x)++(g'::y)=v::w::(s++[u]):=by rw [hxy]; rfl
     rw [this]; exact h
    exact h9.rot
   have hmem:∀ q,q ∈ g'::(y++v::x)->q ∈ v::w::(s++[u]):=by
    intro q hq
    rw [hxy]; simp at hq ⊢; grind
   have hmem2:∀ q,q ∈ v::w::(s++[u])->q ∈ g'::(y++v::x):=by
    intro q hq
    rw [hxy] at hq; simp at hq ⊢; grind
   have hlen:(g'::(y++v::x)).length=(v::w::(s++[u])).length:=by
    rw [hxy]; simp; omega
   obtain ⟨w2,s2,u2,hf⟩:=three_form hrot
   have hs2:s2 ≠ []:=by
    intro c
    rw [hf,c] at hlen
    have h0:s.length ≠ 0:=fun c=>hs (List.eq_nil_of_length_eq_zero c)
    have h3:(g'::w2::(([]:List Pq)++[u2])).length=3:=rfl
    have h4:(v::w::(s++[u])).length=s.length+3:=by simp
    rw [h3,h4] at hlen
    omega
   have hrot':=hrot
   rw [hf] at hrot'
   obtain ⟨c2,hc2,_⟩:=step1 ih (v:=g') (w:=w2) (u:=u2) (s:=s2) (by rw [<-hf,hlen]; exact hN) hrot' (by rw [<-hf]; exact xg'.sub hmem) hs2
   have xv:Xtr v (g'::w2::(s2++[u2])):=by rw [<-hf]; exact he.sub hmem
   have xg2:Xtr g (g'::w2::(s2++[u2])):=by rw [<-hf]; exact xg.sub hmem
   -- v seen from g'
   have a1:=hc2 y v x hf.symm xv
   have a1':turnV v (x++g'::y)=crs u v w:=by rw [<-hxy]; exact hT
   rw [a1'] at a1
   -- g seen from v and from g'
   have a2:∃ tg:Rat,0 < tg*c/\0 < tg*c2:=by
    rw [hxy] at hg
    rcases List.mem_append.1 hg with m | m
    ·obtain ⟨x1,x2,rfl⟩:=List.append_of_mem m
     have b1:=hc x1 g (x2++g'::y) (by rw [hxy]; simp) xg
     have b2:=hc2 (y++v::x1) g x2 (by rw [<-hf]; simp) xg2
     refine ⟨_,b1,?_⟩
     have:x2++g'::(y++v::x1)=x2++g'::y++v::x1:=by simp
     rw [<-this]; exact b2
    ·rcases List.mem_cons.1 m with m | m
     ·exact absurd m gg
     ·obtain ⟨y1,y2,rfl⟩:=List.append_of_mem m
      have b1:=hc (x++g'::y1) g y2 (by rw [hxy]; simp) xg
      have b2:=hc2 y1 g (y2++v::x) (by rw [<-hf]; simp) xg2
      refine ⟨_,b1,?_⟩
      have:y2++v::x++g'::y1=y2++v::(x++g'::y1):=by simp
      rw [<-this]; exact b2
   obtain ⟨tg,t1,t2⟩:=a2
   have t3:=sgn_mul3 a1 t2
   have t4:0 < c*tg:=by grind
   have t5:=sgn_mul3 t3 t4
   exact fin c (Rat.le_of_lt t5) hor
theorem cl_all:∀ N,Cl N
 | 0=>fun a h b hl=>absurd hl (Nat.not_lt_zero _)
 | N+1=>by
  intro a h b hl hS hX
  have hS2:Smp (h::(b++a)):=hS.rot (l1:=a) (l2:=h::b)
  have hX2:Xtr h (h::(b++a)):=hX.sub (fun q hq=>by simp at hq ⊢; grind)
  have hlen:(h::(b++a)).length<=N:=by
   simp only [List.length_append,List.length_cons] at hl ⊢
   omega
  have:=first_sign (cl_all N) hlen hS2 hX2
  have e:areaQ (h::(b++a))=areaQ (a++h::b):=area_rot a (h::b)
  rw [e] at this
  exact this
theorem vof_q (m n:Int) (h:(-9223372036854775808<=m/\m < 9223372036854775808)/\(-9223372036854775808<=n/\n < 9223372036854775808)):Con Tryz.prog 90 [.v (.int .i64 m),.v (.int .i64 n)] (.v (crP ⟨(m:Rat),(n:Rat)⟩).v):=by
 have h1:=h.1
 have h2:=h.2
 obtain ⟨r0,e0⟩:∃ r,r=crP ⟨(m:Rat),(n:Rat)⟩:=⟨_,rfl⟩
 rw [<-e0]
 refine Con.of ttOk mixed Tryz.func90 {} .nil 0 (by kernel_rfl) (fun P' E hP hE=>?_)
 cbv
 refine ofc_c hP hE rfl (by omega) ?_
 intro c1 ec1 hc1
 cbv
 refine ofc_c hP hE rfl (by omega) ?_
 intro c2 ec2 hc2
 cbv
 rw [e0,ec1,ec2]; rfl
abbrev zQ:Pt:=⟨⟨false,⟨#[]⟩,⟨#[]⟩⟩,⟨false,⟨#[]⟩,⟨#[]⟩⟩⟩
theorem edges_ok:InlOk Tryz.prog [(111,Tryz.f111,{}),(201,Tryz.f201,{ ord:=[(3,.op 0 (.op 1 (.op 2 (.op 3 (.op 4 (.op 5 (.op 6 (.op 7 (.op 8 (.op 9 (.wr 10 (.op 11 .nil))))))))))))] })]:=
 InlOk.cons Tryz.func111 (by kernel_rfl) (InlOk.cons Tryz.func201 (by kernel_rfl) .nil)
theorem map_at {ps:List Pt} {i:Nat} (h:i < ps.length):at' (ps.map Pt.q) i=(ps.getD i zQ).q:=by
 unfold at'
 rw [List.getD_eq_getElem?_getD,List.getD_eq_getElem?_getD,List.getElem?_map,List.getElem?_eq_getElem h]; rfl
theorem getD_mem {ps:List Pt} {i:Nat} (h:i < ps.length):ps.getD i zQ ∈ ps:=by
 rw [List.getD_eq_getElem?_getD,List.getElem?_eq_getElem h]; exact List.getElem_mem h
/-- What a round over the edges needs. -/
structure EdgF (ps:List Pt) (n i j r:Int) (p q:Pt):Prop where
 in1:0<=i/\i < n
 add:std.ib .add .i64 i 1=j
 nz:n ≠ 0
 rem:std.ib .rem .i64 j n=r
 in2:0<=r/\r < n
 g1:std.get Pt ps i zQ=p
 g2:std.get Pt ps r zQ=q
 m1:p ∈ ps
 m2:q ∈ ps
 e:edgeQ (ps.map Pt.q) i.toNat=⟨p.q,q.q⟩
 st:(edgesQ (ps.map Pt.q)).take j.toNat=(edgesQ (ps.map Pt.q)).take i.toNat++[⟨p.q,q.q⟩]
 j0:0<=j
 j1:j<=n
 mu:(n - j).toNat < (n - i).toNat
theorem edgF_ex {ps:List Pt} {n i:Int} (hn:n=(ps.length:Int)) (hl:ps.length<=4096) (h0:0<=i) (h1:i < n):∃ j r p q,EdgF ps n i j r p q:=by
 have hpos:i.toNat < ps.length:=by omega
 have hr:(i.toNat+1) % ps.length < ps.length:=Nat.mod_lt _ (by omega)
 have er:(i+1).tmod n=(((i.toNat+1) % ps.length:Nat):Int):=by
  rw [Int.tmod_eq_emod_of_nonneg (by omega),hn,Int.natCast_emod]; congr 1; omega
 have e:edgeQ (ps.map Pt.q) i.toNat=⟨(ps.getD i.toNat zQ).q,(ps.getD ((i.toNat+1) % ps.length) zQ).q⟩:=by
  unfold edgeQ
  rw [List.length_map,map_at hpos,map_at hr]
 refine ⟨i+1,(((i.toNat+1) % ps.length:Nat):Int),ps.getD i.toNat zQ,ps.getD ((i.toNat+1) % ps.length) zQ,⟨⟨h0,h1⟩,by rw [s_add,w64 (by omega) (by omega)],by omega,by rw [s_rem,er],⟨by omega,by omega⟩,rfl,rfl,getD_mem hpos,getD_mem hr,e,?_,by omega,by omega,by omega⟩⟩
 have e2:(i+1).toNat=i.toNat+1:=by omega
 rw [e2,edges_take (by rw [List.length_map]; exact hpos),e]
/-- What the loop of Area holds. -/
structure SumI (ps:List Pt) (m:Nat) (n i:Int) (s:R):Prop where
 h0:0<=i
 h1:i<=n
 is:Is m s (sumE crE ((edgesQ (ps.map Pt.q)).take i.toNat))
/-- A round of Area. -/
structure SumF (ps:List Pt) (m:Nat) (n i:Int) (s:R) (j r:Int) (p q:Pt) (c s':R):Prop where
 e:EdgF ps n i j r p q
 cr:Con Tryz.prog 112 [.v p.v,.v q.v] (.v c.v)
 ad:Con Tryz.prog 45 [.v s.v,.v c.v] (.v s'.v)
 st:SumI ps m n j s'
theorem pts_bd {k:Nat} {ps:List Pt} (hp:∀ p ∈ ps,IsP k p p.q):∀ q ∈ ps.map Pt.q,BdP k q:=by
 intro q hq
 obtain ⟨p,h1,h2⟩:=List.mem_map.1 hq
 rw [<-h2]; exact (hp p h1).b
theorem sum_bd {k:Nat} {l:List Pq} (hl:l.length<=4096) (hp:∀ q ∈ l,BdP k q) (hk1:1<=k) (i:Nat):Bd (20480*k+20480) (sumE crE ((edgesQ l).take i)):=by
 have h:=sumE_bd (f:=crE) (m:=4*k+1) ((edgesQ l).take i) (fun e he=>crE_bd (edges_bd hp e (List.mem_of_mem_take he)))
 refine h.mono ?_
 have h2:((edgesQ l).take i).length<=4096:=by rw [List.length_take,edges_len]; omega
 have h3:((edgesQ l).take i).length*(4*k+1+1)<=4096*(4*k+2):=Nat.mul_le_mul_right _ h2
 omega
theorem sumF_ex {k:Nat} {ps:List Pt} (hp:∀ p ∈ ps,IsP k p p.q) (hl:ps.length<=4096) (hk:40960*k+40960<=134217728) {n i:Int} {s:R} (hn:n=(ps.length:Int)) (h:SumI ps (20480*k+20480) n i s) (hi:i < n):∃ j r p q c s',SumF ps (20480*k+20480) n i s j r p q c s':=by
 obtain ⟨j,r,p,q,he⟩:=edgF_ex hn hl h.h0 hi
 have hk1:1<=k:=(hp p he.m1).b.x.pos
 obtain ⟨c,ec,hc,kc⟩:=vcross_p (hp p he.m1) (hp q he.m2) (by omega)
 obtain ⟨s',es,hs,ka⟩:=add_p h.is hc (by omega)
 have e2:sumE crE ((edgesQ (ps.map Pt.q)).take i.toNat)+p.q.cross q.q=sumE crE ((edgesQ (ps.map Pt.q)).take j.toNat):=by rw [he.st,sumE_snoc]; rfl
 refine ⟨j,r,p,q,c,s',he,kc,ka,he.j0,he.j1,?_⟩
 rw [es,e2]
 exact (sum_bd (by rw [List.length_map]; exact hl) (pts_bd hp) hk1 _).is
theorem area_q {k:Nat} {ps:List Pt} (hp:∀ p ∈ ps,IsP k p p.q) (hl:ps.length<=4096) (hk:40960*k+40960<=134217728) (hk1:1<=k):Con Tryz.prog 32 [.ro cP ps] (.v (cr (areaQ (ps.map Pt.q))).v):=by
 obtain ⟨r0,e0⟩:∃ r,r=cr (areaQ (ps.map Pt.q)):=⟨_,rfl⟩
 rw [<-e0]
 obtain ⟨n,hn⟩:∃ n:Int,n=ps.length:=⟨_,rfl⟩
 obtain ⟨i0,hi0⟩:∃ i:Int,i=0:=⟨_,rfl⟩
 obtain ⟨s0,hs0⟩:∃ s:R,s=⟨false,⟨#[]⟩,⟨#[]⟩⟩:=⟨_,rfl⟩
 have hp0:SumI ps (20480*k+20480) n i0 s0:=⟨by omega,by omega,by
  rw [hs0,hi0]
  show Is _ _ (0:Rat)
  have hz:=(Bd.zero (k:=20480*k+20480) (by omega)).is
  have e:cr 0=⟨false,⟨#[]⟩,⟨#[]⟩⟩:=cr_zero
  rw [e] at hz; exact hz⟩
 have hrnd:∀ i s,SumI ps (20480*k+20480) n i s->i < n->∃ j r p q c s',SumF ps (20480*k+20480) n i s j r p q c s':=fun i s h h'=>sumF_ex hp hl hk hn h h'
 obtain ⟨t2,et2⟩:∃ r,r=cr ((2:Int):Rat):=⟨_,rfl⟩
 have k2:=ofQ_q 2 (by decide) (by decide)
 rw [<-et2] at k2
 have h2:Is 8 t2 ((2:Int):Rat):=by rw [et2]; exact (bd_int (by decide)).is
 have hquo:∀ i s,SumI ps (20480*k+20480) n i s->¬ i < n->∃ e:Int,Con Tryz.prog 43 [.v s.v,.v t2.v] (.v (.tuple #[r0.v,.int .i64 e])):=by
  intro i s h h'
  obtain ⟨r,e,er,_,_,kq⟩:=quo_p h.is h2 (by omega)
  have h3:=h.h1
  rw [edges_all (by rw [List.length_map]; omega)] at er
  have e3:r=r0:=by rw [er,e0]; rfl
  exact ⟨e,e3 ▸ kq⟩
 clear e0
 refine Con.of ttOk mixed Tryz.func32 { ord:=(5,[0,1,2,3,4,5])::[(6,(.op 0 (.br 1 (.br 2 (.op 3 (.op 4 (.op 5 (.op 6 (.op 7 (.op 8 .nil)))))) (.br 6 (.op 2 (.op 3 (.op 4 (.op 5 (.op 7 (.op 8 .nil)))))) .stop)) (.br 6 (.op 1 (.op 2 (.op 3 (.op 4 (.op 5 (.op 7 (.op 8 .nil))))))) .stop))))] } edges_ok 4 (by kernel_rfl) (fun P' E hP hE=>?_)
 cbv
 refine LoopTo.by (ι:=Int × R) (fun x=>[(6,.v (.int .i64 n)),(7,.v (.int .i64 x.1))]) (fun x=>[(2,.cells x.2.av 31)]) (fun x=>SumI ps (20480*k+20480) n x.1 x.2) (fun x=>(n - x.1).toNat) (i0,s0) [] hp0 ?_ ?_
 ·cbv
  subst hE
  and_intros
  all_goals first
   | exact True.intro
   | rfl
   | exact vi hn.symm
   | exact vj hi0.symm
   | exact congrArg (fun s:R=>AV.v (Value.bool s.neg)) hs0.symm
   | exact congrArg (fun s:R=>AV.v (Value.string s.num)) hs0.symm
   | exact congrArg (fun s:R=>AV.v (Value.string s.den)) hs0.symm
   | (intro h; cases h; done)
 ·rintro ⟨i,s⟩ hi
  have hi:SumI ps (20480*k+20480) n i s:=hi
  clear hp0
  cbv
  refine fork.mk ?_ ?_
  ·intro g
   have hlt:i < n:=by subst hE; simpa [std] using g
   refine Exists.elim (hrnd i s hi hlt) ?_
   intro j h
   refine Exists.elim h ?_
   intro r h
   refine Exists.elim h ?_
   intro p h
   refine Exists.elim h ?_
   intro q h
   refine Exists.elim h ?_
   intro c h
   refine Exists.elim h ?_
   intro s' hf
   have hn:n=(ps.length:Int):=hn
   have in1:0<=i/\i < (ps.length:Int):=by rw [<-hn]; exact hf.e.in1
   have hadd:=hf.e.add
   have hnz:std.nz .rem (std.len Pt ps):=by show (ps.length:Int) ≠ 0; have:=hf.e.nz; rw [<-hn]; exact this
   have hrem:std.ib .rem .i64 (std.ib .add .i64 i 1) (std.len Pt ps)=r:=by rw [hadd,s_len,<-hn]; exact hf.e.rem
   have in2:0<=std.ib .rem .i64 (std.ib .add .i64 i 1) (std.len Pt ps)/\std.ib .rem .i64 (std.ib .add .i64 i 1) (std.len Pt ps) < (ps.length:Int):=by rw [hrem,<-hn]; exact hf.e.in2
   have hg1:=hf.e.g1
   have hg2:std.get Pt ps (std.ib .rem .i64 (std.ib .add .i64 i 1) (std.len Pt ps)) zQ=q:=by rw [hrem]; exact hf.e.g2
   have kcr:=hf.cr
   have kad:=hf.ad
   have hst:=hf.st
   have hmu:=hf.e.mu
   clear hf h hi hlt g
   cbv
   refine Need.mk (by subst hE; exact in1) ?_
   cbv
   refine Need.mk (by subst hE; exact hnz) ?_
   cbv
   refine Need.mk (by subst hE; exact in2) ?_
   cbv
   refine CallTo.w hP hE kcr ⟨(by subst hE; exact congrArg (fun p:Pt=>p.v) hg1),(by subst hE; exact congrArg (fun p:Pt=>p.v) hg2),trivial⟩ ?_
   cbv
   refine CallTo.w hP hE kad ⟨rfl,rfl,trivial⟩ ?_
   cbv
   refine ⟨(j,s'),[],hst,hmu,?_⟩
   cbv
   subst hE
   and_intros
   all_goals first
    | exact True.intro
    | rfl
    | exact vi hadd
    | exact vj hadd
    | (simp; done)
    | (intro h; cases h; done)
  ·intro g
   have hge:¬ i < n:=by subst hE; simpa [std] using g
   have hx:=hquo i s hi hge
   clear hi hge hquo hrnd g
   cbv
   refine Exists.elim hx ?_
   intro e kq
   refine DrawTo.byU [(6,.p 5 0),(7,.v (.int .i64 e))] [.cells r0.av 31] ?_ ?_
   ·cbv
    repeat' first
     | exact True.intro
     | (refine Both.mk ?_ ?_<;>cbv)
     | (refine CallTo.w hP hE k2 ⟨rfl,trivial⟩ ?_; cbv)
     | (refine CallTo.w hP hE kq ⟨rfl,rfl,trivial⟩ ?_; cbv)
     | (and_intros<;>first | exact True.intro | rfl | (intro h; cases h; done) | (intro h; rfl))
   ·cbv
    skip
abbrev tiFn:TI:={ kind:=0,sz:=1,zero:=[Value.nilFunc],flds:=[],elem:=0,ik:=.i64,eq:=false,len:=0,bytes:=8,cd:=none }
theorem tyFn:TyOk Tryz.prog 34 tiFn:=⟨by kernel_rfl,by kernel_rfl,(fun _=>⟨_,rfl,rfl⟩),rfl,(fun _ h=>by cases h),(fun h=>by cases h)⟩
def ttF:Tab:=(34,tiFn)::tt
theorem ttFOk:TabOk Tryz.prog ttF:=.cons tyFn ttOk
theorem odd_ok:InlOk Tryz.prog [(111,Tryz.f111,{}),(201,Tryz.f201,{ ord:=[(3,.op 0 (.op 1 (.op 2 (.op 3 (.op 4 (.op 5 (.op 6 (.op 7 (.op 8 (.op 9 (.wr 10 (.op 11 .nil))))))))))))] }),(203,Tryz.f203,{})]:=
 InlOk.cons Tryz.func111 (by kernel_rfl) (InlOk.cons Tryz.func201 (by kernel_rfl) (InlOk.cons Tryz.func203 (by kernel_rfl) .nil))
/-- What the loop holds. -/
structure OddI (ps:List Pt) (P:Pq) (n i:Int) (b:Bool):Prop where
 h0:0<=i
 h1:i<=n
 eq:b=parE P ((edgesQ (ps.map Pt.q)).take i.toNat)
/-- A round. -/
structure OddF (ps:List Pt) (z:Pt) (P:Pq) (n i:Int) (b:Bool) (j r:Int) (p q:Pt) (ma mb o1 o2:Int):Prop where
 e:EdgF ps n i j r p q
 ca:Con Tryz.prog 88 [.v p.y.v,.v z.y.v] (.v (.int .i64 ma))
 cb:Con Tryz.prog 88 [.v q.y.v,.v z.y.v] (.v (.int .i64 mb))
 or1:Con Tryz.prog 28 [.v p.v,.v q.v,.v z.v] (.v (.int .i64 o1))
 or2:Con Tryz.prog 28 [.v q.v,.v p.v,.v z.v] (.v (.int .i64 o2))
 up:0 < ma->0 < o2->¬ 0 < mb->OddI ps P n j (!b)
 upn:0 < ma->(¬ 0 < o2\/0 < mb)->OddI ps P n j b
 dn:¬ 0 < ma->0 < mb->0 < o1->OddI ps P n j (!b)
 dnn:¬ 0 < ma->(¬ 0 < mb\/¬ 0 < o1)->OddI ps P n j b
theorem oddF_ex {k:Nat} {ps:List Pt} (hp:∀ p ∈ ps,IsP k p p.q) (hl:ps.length<=4096) (hk:16*k+16<=134217728) {z:Pt} {P:Pq} (hz:IsP k z P) {n i:Int} {b:Bool} (hn:n=(ps.length:Int)) (h:OddI ps P n i b) (hi:i < n):∃ j r p q ma mb o1 o2,OddF ps z P n i b j r p q ma mb o1 o2:=by
 obtain ⟨j,r,p,q,he⟩:=edgF_ex hn hl h.h0 hi
 obtain ⟨ma,ea,ka⟩:=cmp_p (hp p he.m1).y hz.y (by omega)
 obtain ⟨mb,eb,kb⟩:=cmp_p (hp q he.m2).y hz.y (by omega)
 obtain ⟨o1,e1,k1⟩:=orient_p (hp p he.m1) (hp q he.m2) hz (by omega)
 obtain ⟨o2,e2,k2⟩:=orient_p (hp q he.m2) (hp p he.m1) hz (by omega)
 have hst:OddI ps P n j (if oddE P ⟨p.q,q.q⟩=true then !b else b):=⟨he.j0,he.j1,by rw [he.st,parE_snoc,h.eq]⟩
 have hu:∀ m x:Int,(upQ p.q P=true ↔ 0 < ma):=fun _ _=>by unfold upQ; rw [decide_eq_true_iff,ea]
 have ua:upQ p.q P=decide (0 < ma):=by unfold upQ; rw [ea]
 have ub:upQ q.q P=decide (0 < mb):=by unfold upQ; rw [eb]
 have hodd:oddE P ⟨p.q,q.q⟩=if 0 < ma then (!decide (0 < mb) && (decide (0 < ma) && decide (0 < o2))) else (!decide (0 < ma) && (decide (0 < mb) && decide (0 < o1))):=by
  unfold oddE
  simp only
  rw [ua,ub,e1,e2]
  by_cases c:0 < cmpQ p.q.y P.y<;>simp [c]
 refine ⟨j,r,p,q,ma,mb,o1,o2,he,ka,kb,k1,k2,fun c1 c2 c3=>?_,fun c1 c2=>?_,fun c1 c2 c3=>?_,fun c1 c2=>?_⟩
 ·rw [hodd,if_pos c1,decide_eq_true c1,decide_eq_true c2,decide_eq_false c3] at hst; exact hst
 ·rw [hodd,if_pos c1] at hst
  rcases c2 with c2 | c2
  ·simpa [c2] using hst
  ·simpa [c2] using hst
 ·rw [hodd,if_neg c1,decide_eq_false c1,decide_eq_true c2,decide_eq_true c3] at hst; exact hst
 ·rw [hodd,if_neg c1] at hst
  rcases c2 with c2 | c2
  ·simpa [c2] using hst
  ·simpa [c2] using hst
theorem odd_q {k:Nat} {ps:List Pt} (hp:∀ p ∈ ps,IsP k p p.q) (hl:ps.length<=4096) (hk:16*k+16<=134217728) {z:Pt} {P:Pq} (hz:IsP k z P):Con Tryz.prog 116 [.ro cP ps,.v z.v] (.v (.bool (oddQ (ps.map Pt.q) P))):=by
 obtain ⟨r0,e0⟩:∃ r,r=oddQ (ps.map Pt.q) P:=⟨_,rfl⟩
 rw [<-e0]
 obtain ⟨n,hn⟩:∃ n:Int,n=ps.length:=⟨_,rfl⟩
 obtain ⟨i0,hi0⟩:∃ i:Int,i=0:=⟨_,rfl⟩
 obtain ⟨b0,hb0⟩:∃ b:Bool,b=false:=⟨_,rfl⟩
 have hp0:OddI ps P n i0 b0:=⟨by omega,by omega,by rw [hb0,hi0]; rfl⟩
 have hrnd:∀ i b,OddI ps P n i b->i < n->∃ j r p q ma mb o1 o2,OddF ps z P n i b j r p q ma mb o1 o2:=fun i b h h'=>oddF_ex hp hl hk hz hn h h'
 have hfin:∀ i b,OddI ps P n i b->¬ i < n->b=r0:=fun i b h h'=>by
  have h1:=h.h1
  rw [h.eq,e0,edges_all (by rw [List.length_map]; omega)]; rfl
 clear e0
 refine Con.of ttFOk mixed Tryz.func116 {} odd_ok 5 (by kernel_rfl) (fun P' E hP hE=>?_)
 cbv
 refine LoopTo.by (ι:=Int × Bool) (fun x=>[(6,.v (.int .i64 n)),(7,.v (.int .i64 x.1))]) (fun x=>[(4,.cells [.v (.bool x.2)] 4)]) (fun x=>OddI ps P n x.1 x.2) (fun x=>(n - x.1).toNat) (i0,b0) [] hp0 ?_ ?_
 ·cbv
  subst hE
  and_intros
  all_goals first
   | exact True.intro
   | rfl
   | exact vi hn.symm
   | exact vj hi0.symm
   | exact congrArg (fun x=>AV.v (Value.bool x)) hb0.symm
   | (intro h; cases h; done)
   | (simp [hb0]; done)
 ·rintro ⟨i,b⟩ hi
  have hi:OddI ps P n i b:=hi
  clear hp0
  cbv
  refine fork.mk ?_ ?_
  ·intro g
   have hlt:i < n:=by subst hE; simpa [std] using g
   refine Exists.elim (hrnd i b hi hlt) ?_
   intro j h
   refine Exists.elim h ?_
   intro r h
   refine Exists.elim h ?_
   intro p h
   refine Exists.elim h ?_
   intro q h
   refine Exists.elim h ?_
   intro ma h
   refine Exists.elim h ?_
   intro mb h
   refine Exists.elim h ?_
   intro o1 h
   refine Exists.elim h ?_
   intro o2 hf
   have hn:n=(ps.length:Int):=hn
   have in1:0<=i/\i < (ps.length:Int):=by rw [<-hn]; exact hf.e.in1
   have hadd:=hf.e.add
   have hnz:std.nz .rem (std.len Pt ps):=by show (ps.length:Int) ≠ 0; have:=hf.e.nz; rw [<-hn]; exact this
   have hrem:std.ib .rem .i64 (std.ib .add .i64 i 1) (std.len Pt ps)=r:=by rw [hadd,s_len,<-hn]; exact hf.e.rem
   have in2:0<=std.ib .rem .i64 (std.ib .add .i64 i 1) (std.len Pt ps)/\std.ib .rem .i64 (std.ib .add .i64 i 1) (std.len Pt ps) < (ps.length:Int):=by rw [hrem,<-hn]; exact hf.e.in2
   have hg1:=hf.e.g1
   have hg2:std.get Pt ps (std.ib .rem .i64 (std.ib .add .i64 i 1) (std.len Pt ps)) zQ=q:=by rw [hrem]; exact hf.e.g2
   have ka:=hf.ca
   have kb:=hf.cb
   have k1:=hf.or1
   have k2:=hf.or2
   have hup:=hf.up
   have hupn:=hf.upn
   have hdn:=hf.dn
   have hdnn:=hf.dnn
   have hmu:=hf.e.mu
   clear hf h hi hlt g
   cbv
   refine Need.mk (by subst hE; exact in1) ?_
   cbv
   refine Need.mk (by subst hE; exact hnz) ?_
   cbv
   refine Need.mk (by subst hE; exact in2) ?_
   cbv
   refine CallTo.w hP hE ka ⟨(by subst hE; exact congrArg (fun p:Pt=>p.y.v) hg1),rfl,trivial⟩ ?_
   cbv
   refine fork.mk ?_ ?_
   ·intro g1
    have c1:0 < ma:=by subst hE; simpa [std] using g1
    cbv
    refine CallTo.w hP hE kb ⟨(by subst hE; exact congrArg (fun p:Pt=>p.y.v) hg2),rfl,trivial⟩ ?_
    cbv
    refine fork.mk ?_ ?_
    ·intro g2
     have c2:¬ 0 < mb:=by subst hE; simpa [std] using g2
     cbv
     refine CallTo.w hP hE ka ⟨(by subst hE; exact congrArg (fun p:Pt=>p.y.v) hg1),rfl,trivial⟩ ?_
     cbv
     refine fork.mk ?_ ?_
     ·intro g2
      cbv
      refine CallTo.w hP hE k2 ⟨(by subst hE; exact congrArg (fun p:Pt=>p.v) hg2),(by subst hE; exact congrArg (fun p:Pt=>p.v) hg1),rfl,trivial⟩ ?_
      cbv
      refine fork.mk ?_ ?_
      ·intro g2
       have c3:0 < o2:=by subst hE; simpa [std] using g2
       cbv
       refine ⟨(j,!b),[],hup c1 c3 c2,hmu,?_⟩
       cbv
       subst hE
       and_intros
       all_goals first
        | exact True.intro
        | rfl
        | exact vi hadd
        | exact vj hadd
        | (simp; done)
        | (intro h; cases h; done)
      ·intro g2
       have c3:¬ 0 < o2:=by subst hE; simpa [std] using g2
       cbv
       refine ⟨(j,b),[],hupn c1 (Or.inl c3),hmu,?_⟩
       cbv
       subst hE
       and_intros
       all_goals first
        | exact True.intro
        | rfl
        | exact vi hadd
        | exact vj hadd
        | (simp; done)
        | (intro h; cases h; done)
     ·intro g2
      have c3:¬ 0 < ma:=by subst hE; simpa [std] using g2
      exact absurd c1 c3
    ·intro g2
     have c2:0 < mb:=by subst hE; simpa [std] using g2
     cbv
     refine ⟨(j,b),[],hupn c1 (Or.inr c2),hmu,?_⟩
     cbv
     subst hE
     and_intros
     all_goals first
      | exact True.intro
      | rfl
      | exact vi hadd
      | exact vj hadd
      | (simp; done)
      | (intro h; cases h; done)
   ·intro g1
    have c1:¬ 0 < ma:=by subst hE; simpa [std] using g1
    cbv
    refine CallTo.w hP hE ka ⟨(by subst hE; exact congrArg (fun p:Pt=>p.y.v) hg1),rfl,trivial⟩ ?_
    cbv
    refine fork.mk ?_ ?_
    ·intro g2
     cbv
     refine CallTo.w hP hE kb ⟨(by subst hE; exact congrArg (fun p:Pt=>p.y.v) hg2),rfl,trivial⟩ ?_
     cbv
     refine fork.mk ?_ ?_
     ·intro g2
      have c2:0 < mb:=by subst hE; simpa [std] using g2
      cbv
      refine CallTo.w hP hE k1 ⟨(by subst hE; exact congrArg (fun p:Pt=>p.v) hg1),(by subst hE; exact congrArg (fun p:Pt=>p.v) hg2),rfl,trivial⟩ ?_
      cbv
      refine fork.mk ?_ ?_
      ·intro g2
       have c3:0 < o1:=by subst hE; simpa [std] using g2
       cbv
       refine ⟨(j,!b),[],hdn c1 c2 c3,hmu,?_⟩
       cbv
       subst hE
       and_intros
       all_goals first
        | exact True.intro
        | rfl
        | exact vi hadd
        | exact vj hadd
        | (simp; done)
        | (intro h; cases h; done)
      ·intro g2
       have c3:¬ 0 < o1:=by subst hE; simpa [std] using g2
       cbv
       refine ⟨(j,b),[],hdnn c1 (Or.inr c3),hmu,?_⟩
       cbv
       subst hE
       and_intros
       all_goals first
        | exact True.intro
        | rfl
        | exact vi hadd
        | exact vj hadd
        | (simp; done)
        | (intro h; cases h; done)
     ·intro g2
      have c2:¬ 0 < mb:=by subst hE; simpa [std] using g2
      cbv
      refine ⟨(j,b),[],hdnn c1 (Or.inl c2),hmu,?_⟩
      cbv
      subst hE
      and_intros
      all_goals first
       | exact True.intro
       | rfl
       | exact vi hadd
       | exact vj hadd
       | (simp; done)
       | (intro h; cases h; done)
    ·intro g2
     have c2:0 < ma:=by subst hE; simpa [std] using g2
     exact absurd c2 c1
  ·intro g
   have hge:¬ i < n:=by subst hE; simpa [std] using g
   have hx:=hfin i b hi hge
   clear hi hge hfin hrnd g
   subst hx
   cbv
def St.nilC (s:St) (b o:Nat) (cs:List AV) (ty e:TypeId) (cd:Cd):St:=⟨s.t,s.h.set b (.cells (cs.set o (.s s.h.length 0)) ty)++[.row true e cd []]⟩
theorem LoopTo.nilC {P:Program} {m:Nat} {c:Unit->Code} {B:Unit->(X->St->Prop)->St->Prop} {K:X->St->Prop} {s:St} (b o:Nat) {cs:List AV} {ty:TypeId} (e:TypeId) (cd:Cd) (hc:cd.Ok) (hb:s.h[b]?=some (.cells cs ty)) (hk:cs[o]?=some (.v (.slice none 0 0))) (h:LoopTo P m c B K (s.nilC b o cs ty e cd)):LoopTo P m c B K s:=by
 refine ⟨fun ro hB w0 β0 β M a w ht hw hx=>?_⟩
 have hblt:b < s.h.length:=(List.getElem?_eq_some_iff.1 hb).1
 have hadd:=hw.add (b:=.row true e cd []) (l:=⟨0,none,0,cd.sz,0⟩) ⟨hc,rfl,rfl,World.ownsRow_nil _ _ _ _⟩ trivial (fun g hg=>by simp [Blk.occ] at hg) (fun _ _ _ e=>by cases e)
 have hb2:(s.h++[Blk.row true e cd []])[b]?=some (.cells cs ty):=by rw [List.getElem?_append_left hblt]; exact hb
 obtain ⟨vs,hg,hvs⟩:=hadd.blk b _ hb2
 obtain ⟨u,hu,hr⟩:=AVRs_get hvs hk
 simp only [AVR] at hr
 subst hr
 have hset:vs.toList.set o (.slice none 0 0)=vs.toList:=by
  apply List.ext_getElem?
  intro j
  rw [List.getElem?_set]
  split
  ·rename_i e; subst e
   rw [hu]
   split
   ·rfl
   ·rename_i hlt; exact absurd (List.getElem?_eq_some_iff.1 hu).1 hlt
  ·rfl
 have hvs2:AVRs (grow β s.h.length ⟨0,none,0,cd.sz,0⟩) (cs.set o (.s s.h.length 0)) vs.toList:=by
  have h2:=hvs.set (x:=.s s.h.length 0) (u:=.slice none 0 0) (avr_s (by omega) (by rw [grow_at]; simp) (by rw [grow_at]; simp)) o
  rw [hset] at h2; exact h2
 have hok:(Blk.cells cs ty).okh (s.h++[Blk.row true e cd []]).length:=hadd.okh _ (List.mem_of_getElem? hb2)
 have hch:=hadd.change hb2 (blk':=.cells (cs.set o (.s s.h.length 0)) ty) (by
  simp only [Blk.okh] at hok ⊢
  exact oks_set hok (by simp only [AV.ok,List.length_append,List.length_singleton]; omega) o) (g:=((grow β s.h.length ⟨0,none,0,cd.sz,0⟩) b).g) rfl rfl ⟨vs,hg,hvs2⟩ (fun _ _=>rfl) (Nat.le_refl _) rfl rfl rfl
 rw [List.set_append_left _ _ hblt] at hch
 refine h.out ro hB w0 β0 (grow β s.h.length ⟨0,none,0,cd.sz,0⟩) M a w ?_ hch ?_
 ·have e1:(s.nilC b o cs ty e cd).h.length=s.h.length+1:=by simp [St.nilC]
  rw [e1]
  exact ht.grow ⟨0,none,0,cd.sz,0⟩
 ·exact ⟨by have:=hx.1; simp [St.nilC]; omega,fun i hi=>by rw [grow_lt (Nat.lt_of_lt_of_le hi hx.1),hx.2 i hi]⟩
end Go.Proofs.YtkipmmiiackdaaaGreat.Sx
