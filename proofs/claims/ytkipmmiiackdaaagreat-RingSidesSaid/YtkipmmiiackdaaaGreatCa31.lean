/- Part 31 of what the statement needs: an executor of Go texts, arithmetic, and contracts of the functions that are called. -/
import Derived.Test.YtkipmmiiackdaaaGreatCa29
import Derived.Test.YtkipmmiiackdaaaGreatCa30
set_option linter.unusedSimpArgs false
set_option linter.unusedVariables false
set_option maxHeartbeats 8000000
set_option maxRecDepth 100000
namespace Go.Proofs.YtkipmmiiackdaaaGreat.Sx
open Env (std)
/-- The turn at h, behind which the vertices of l follow. -/
def turnV (h:Pq) (l:List Pq):Rat:=crs (endP h l) h (l.headD h)
theorem head_app (x:List Pq) (q:Pq) (t:List Pq) (d:Pq):(x++q::t).headD d=(x++[q]).headD d:=by
 cases x<;>rfl
theorem turn_app (h:Pq) (x:List Pq) (q:Pq) (t:List Pq) (p:Pq) (y:List Pq):turnV h (x++q::t++p::y)=crs (endP p y) h ((x++[q]).headD h):=by
 unfold turnV
 rw [end_app,List.append_assoc]
 show crs _ h ((x++q::(t++p::y)).headD h)=_
 rw [head_app]
theorem turn_app0 (h:Pq) (p:Pq) (y:List Pq):turnV h (p::y)=crs (endP p y) h p:=rfl
theorem path_start {u:Pq}:∀ {p:Pq} {s:List Pq} {z:Pq},z ∈ p::s->∃ e ∈ pathE p (s++[u]),e.a=z
 | p,[],z,h=>⟨⟨p,u⟩,by simp [pathE],(List.mem_singleton.1 h).symm⟩
 | p,q::r,z,h=>by
  rcases List.mem_cons.1 h with rfl | h
  ·exact ⟨⟨z,q⟩,by simp [pathE],rfl⟩
  ·obtain ⟨e,he,h2⟩:=path_start (u:=u) h
   exact ⟨e,List.mem_cons_of_mem _ he,h2⟩
theorem least_of (f:Pq->Rat) (p:Pq->Prop):∀ (l:List Pq),(∃ q ∈ l,p q)->∃ z ∈ l,p z/\∀ q ∈ l,p q->f z<=f q
 | [],h=>by obtain ⟨q,h,_⟩:=h; cases h
 | x::l,h=>by
  by_cases c:∃ q ∈ l,p q
  ·obtain ⟨z,hz,pz,hm⟩:=least_of f p l c
   by_cases c2:p x/\f x<=f z
   ·refine ⟨x,by simp,c2.1,fun q hq pq=>?_⟩
    rcases List.mem_cons.1 hq with rfl | hq
    ·exact Rat.le_refl
    ·exact Rat.le_trans c2.2 (hm q hq pq)
   ·refine ⟨z,List.mem_cons_of_mem _ hz,pz,fun q hq pq=>?_⟩
    rcases List.mem_cons.1 hq with rfl | hq
    ·apply Classical.byContradiction
     intro hn
     exact c2 ⟨pq,by grind⟩
    ·exact hm q hq pq
  ·obtain ⟨q,hq,pq⟩:=h
   refine ⟨x,by simp,?_,fun q' hq' pq'=>?_⟩
   ·rcases List.mem_cons.1 hq with rfl | hq
    ·exact pq
    ·exact absurd ⟨q,hq,pq⟩ c
   ·rcases List.mem_cons.1 hq' with rfl | hq'
    ·exact Rat.le_refl
    ·exact absurd ⟨q',hq',pq'⟩ c
/-- A vertex in the triangle lies strictly within the corner. -/
theorem tri_strict {v w u z:Pq} {s:List Pq} (hv:Vwu v w u s) (hD:crs v u w ≠ 0) (hz:z ∈ s) (ht:0<=kA v u w z/\0<=kB v u w z/\kA v u w z+kB v u w z<=1):0 < kA v u w z/\0 < kB v u w z:=by
 obtain ⟨e,he,ea⟩:=path_start (u:=u) (List.mem_cons_of_mem w hz)
 have oz:OnS e z:=ea ▸ at_on.1
 have zv:z ≠ v:=hv.vs z (by simp [hz])
 constructor
 ·apply Classical.byContradiction
  intro c
  have k0:kA v u w z=0:=by grind
  rcases hv.r1 e he z (on_vw hD k0 ht.2.1 (by grind)) oz with ⟨_,g⟩ | ⟨g,_⟩
  ·exact hv.ws z (by simp [hz]) g
  ·exact hv.vs e.b (List.mem_cons_of_mem _ (path_mem he).2) g
 ·apply Classical.byContradiction
  intro c
  have k0:kB v u w z=0:=by grind
  rcases hv.r4 e he z oz (on_uv hD k0 ht.1 (by grind)) with ⟨_,g⟩ | ⟨g,_⟩
  ·exact hv.nd e he (ea.trans g)
  ·exact zv (ea.symm.trans g.symm)
/-- Such a vertex is not extreme. -/
theorem tri_not {v w u z:Pq} {s l:List Pq} (hv:Vwu v w u s) (hD:crs v u w ≠ 0) (hz:z ∈ s) (za:0 < kA v u w z) (zb:0 < kB v u w z) (zs:kA v u w z+kB v u w z<=1) (mv:v ∈ l) (mu:u ∈ l) (mw:w ∈ l):¬ Xtr z l:=by
 rintro ⟨d,e,hc,hq⟩
 have zv:z ≠ v:=hv.vs z (by simp [hz])
 have zw:z ≠ w:=hv.ws z (by simp [hz])
 have zu:z ≠ u:=hv.us z hz
 have s1:=((hq u mu zu.symm).scale za).add ((hq w mw zw.symm).scale zb)
 have hk:=k_pt hD z
 by_cases c:kA v u w z+kB v u w z=1
 ·exact s1.ne (Pq.ext' (by simp only [Pq.add,Pq.scale,Pq.sub]; have:=hk.1; show _=(0:Rat); grind) (by simp only [Pq.add,Pq.scale,Pq.sub]; have:=hk.2; show _=(0:Rat); grind))
 ·have s2:=s1.add ((hq v mv zv.symm).scale (show 0 < 1 - (kA v u w z+kB v u w z) by grind))
  exact s2.ne (Pq.ext' (by simp only [Pq.add,Pq.scale,Pq.sub]; have:=hk.1; show _=(0:Rat); grind) (by simp only [Pq.add,Pq.scale,Pq.sub]; have:=hk.2; show _=(0:Rat); grind))
theorem area_ear (v w u:Pq) (s:List Pq):areaQ (v::w::(s++[u]))=areaQ (w::(s++[u]))+crs u v w / ((2:Int):Rat):=by
 unfold areaQ
 rw [edges_vwu,edges_wu,sumE_cons,sumE_app,sumE_app,sumE_cons,sumE_cons]
 have:crE ⟨v,w⟩+crE ⟨u,v⟩=crE ⟨u,w⟩+crs u v w:=by simp only [crE,crs,Pq.cross,Pq.sub]; grind
 have e0:sumE crE []=0:=rfl
 rw [e0,Rat.div_def,Rat.div_def,Rat.div_def]
 grind
/-- For polygons of fewer than N vertices the turn at an extreme vertex has the sign of the area. -/
def Cl (N:Nat):Prop:=∀ (a:List Pq) (h:Pq) (b:List Pq),(a++h::b).length < N->Smp (a++h::b)->Xtr h (a++h::b)->0 < turnV h (b++a)*areaQ (a++h::b)
theorem step1 {N:Nat} (ih:Cl N) {v w u:Pq} {s:List Pq} (hN:(v::w::(s++[u])).length<=N) (h:Smp (v::w::(s++[u]))) (he:Xtr v (v::w::(s++[u]))) (hs:s ≠ []) :
  ∃ c:Rat,(∀ a g b,w::(s++[u])=a++g::b->Xtr g (v::w::(s++[u]))->0 < turnV g (b++v::a)*c)/\(0 < crs u v w*areaQ (v::w::(s++[u]))\/areaQ (v::w::(s++[u]))=c+crs u v w / ((2:Int):Rat)):=by
 have hv:=vwu_of h
 have hD:crs v u w ≠ 0:=turn_ne he (by simp) (by simp) hv.uv hv.vw.symm hv.r2.symm
 by_cases hin:∃ q ∈ s,0<=kA v u w q/\0<=kB v u w q/\kA v u w q+kB v u w q<=1
 ·obtain ⟨z,hz,tz,hm⟩:=least_of (fun q=>kA v u w q+kB v u w q) _ s hin
  obtain ⟨za,zb⟩:=tri_strict hv hD hz tz
  have hnx:=tri_not (l:=v::w::(s++[u])) hv hD hz za zb tz.2.2 (by simp) (by simp) (by simp)
  obtain ⟨s1,s2,rfl⟩:=List.append_of_mem hz
  have hcut:=smp_cut h hD za zb tz.2.2 (fun q hq q1 q2 q3=>hm q hq ⟨Rat.le_of_lt q1,Rat.le_of_lt q2,Rat.le_of_lt q3⟩)
  have ez1:=crs_z1 (z:=z) hD
  have ez2:=crs_z2 (z:=z) hD
  have l1:(v::w::(s1++[z])).length < N:=by simp at hN ⊢; omega
  have l2:(v::z::(s2++[u])).length < N:=by simp at hN ⊢; omega
  have m1:∀ q ∈ v::w::(s1++[z]),q ∈ v::w::(s1++z::s2++[u]):=by
   intro q hq; simp at hq ⊢; grind
  have m2:∀ q ∈ v::z::(s2++[u]),q ∈ v::w::(s1++z::s2++[u]):=by
   intro q hq; simp at hq ⊢; grind
  have c1:=ih [] v (w::(s1++[z])) l1 hcut.1 (he.sub m1)
  have c2:=ih [] v (z::(s2++[u])) l2 hcut.2 (he.sub m2)
  have t1:turnV v (w::(s1++[z])++[])=kA v u w z*crs u v w:=by
   rw [List.append_nil,turn_app0,end_snoc]; exact ez1
  have t2:turnV v (z::(s2++[u])++[])=kB v u w z*crs u v w:=by
   rw [List.append_nil,turn_app0,end_snoc]; exact ez2
  rw [t1] at c1
  rw [t2] at c2
  simp only [List.nil_append] at c1 c2
  have pos:∀ {k x:Rat},0 < k->0 < k*crs u v w*x->0 < crs u v w*x:=by
   intro k x hk hx
   apply Classical.byContradiction
   intro hn
   have:=Rat.mul_nonneg (Rat.le_of_lt hk) (show 0 <= -(crs u v w*x) by grind)
   grind
  have d1:=pos za c1
  have d2:=pos zb c2
  refine ⟨crs u v w,fun a g b hab hg=>?_,.inl ?_⟩
  ·have hab:(w::s1)++(z::(s2++[u]))=a++g::b:=by rw [<-hab]; simp
   rcases List.append_eq_append_iff.1 hab with ⟨a',ha,hx⟩ | ⟨c',hc,hx⟩
   ·cases a' with
    | nil=>injection hx with hx _; exact absurd (hx ▸ hg) hnx
    | cons z' a''=>
     injection hx with hx1 hx2
     subst hx1
     have e1:v::z::(s2++[u])=(v::z::a'')++g::b:=by rw [hx2]; rfl
     have c3:=ih (v::z::a'') g b (by rw [<-e1]; exact l2) (by rw [<-e1]; exact hcut.2) (by rw [<-e1]; exact hg.sub m2)
     rw [<-e1] at c3
     have e2:turnV g (b++v::a)=turnV g (b++v::z::a''):=by
      rw [ha]
      cases b with
      | nil=>
       show turnV g (v::(w::s1++z::a''))=turnV g (v::z::a'')
       rw [turn_app0,turn_app0]
       have:=end_app v (w::s1) z a''
       rw [this]; rfl
      | cons b0 b'=>
       have q1:=turn_app g [] b0 b' v (w::s1++z::a'')
       have q2:=turn_app g [] b0 b' v (z::a'')
       have:=end_app v (w::s1) z a''
       rw [this] at q1
       exact q1.trans q2.symm
     rw [e2]
     exact sgn_mul3 c3 d2
   ·cases c' with
    | nil=>
     simp at hx
     exact absurd (hx.1 ▸ hg) hnx
    | cons g' c''=>
     injection hx with hx1 hx2
     subst hx1
     have e1:v::w::(s1++[z])=(v::a)++g::(c''++[z]):=by
      have:w::(s1++[z])=a++g::(c''++[z]):=by
       have:=congrArg (·++[z]) hc
       simpa using this
      rw [this]; rfl
     have c3:=ih (v::a) g (c''++[z]) (by rw [<-e1]; exact l1) (by rw [<-e1]; exact hcut.1) (by rw [<-e1]; exact hg.sub m1)
     rw [<-e1] at c3
     have e2:turnV g (b++v::a)=turnV g (c''++[z]++v::a):=by
      rw [hx2]
      have q1:=turn_app g c'' z (s2++[u]) v a
      have q2:=turn_app g c'' z [] v a
      exact q1.trans q2.symm
     rw [e2]
     exact sgn_mul3 c3 d1
  ·have ha:=area_cut v (w::s1) z (s2++[u])
   have hr:areaQ (z::(s2++[u])++[v])=areaQ (v::z::(s2++[u])):=area_rot [v] (z::(s2++[u]))
   rw [hr] at ha
   have e3:v::(w::s1)++z::(s2++[u])=v::w::(s1++z::s2++[u]):=by simp
   rw [e3] at ha
   have e4:v::(w::s1)++[z]=v::w::(s1++[z]):=rfl
   rw [e4] at ha
   rw [<-ha]; grind
 ·have hout:∀ q ∈ s,¬ (0<=kA v u w q/\0<=kB v u w q/\kA v u w q+kB v u w q<=1):=fun q hq c=>hin ⟨q,hq,c⟩
  have hear:=smp_ear h hD hs hout
  refine ⟨areaQ (w::(s++[u])),fun a g b hab hg=>?_,.inr (area_ear v w u s)⟩
  have l1:(w::(s++[u])).length < N:=by simp at hN ⊢; omega
  have c3:=ih a g b (by rw [<-hab]; exact l1) (by rw [<-hab]; exact hear) (by rw [<-hab]; exact hg.sub (fun q hq=>List.mem_cons_of_mem _ hq))
  rw [<-hab] at c3
  -- the turn at g, with and without v
  have key:turnV g (b++v::a)=turnV g (b++a)\/0 < turnV g (b++v::a)*turnV g (b++a):=by
   cases a with
   | nil=>
    right
    injection hab with h1 h2
    subst h1
    subst h2
    obtain ⟨y,t,rfl⟩:∃ y t,s=y::t:=by
     cases s with
     | nil=>exact absurd rfl hs
     | cons y t=>exact ⟨y,t,rfl⟩
    have hD2:crs v w u ≠ 0:=by
     have:crs v w u = - crs v u w:=by simp only [crs,Pq.cross,Pq.sub]; grind
     rw [this]; grind
    have eM:(⟨w,y⟩:Sq) ∈ pathE w (y::t++[u]):=by simp [pathE]
    have kAB:kA v w u y=kB v u w y/\kB v w u y=kA v u w y:=by
     have hn:crs v w u = - crs v u w:=by simp only [crs,Pq.cross,Pq.sub]; grind
     obtain ⟨d,hd⟩:∃ d,d=(crs v u w)⁻¹:=⟨_,rfl⟩
     have hdm:crs v u w*d=1:=by rw [hd]; exact Rat.mul_inv_cancel _ hD
     have hinv:(crs v w u)⁻¹ = - d:=by
      have h1:crs v w u*(crs v w u)⁻¹=1:=Rat.mul_inv_cancel _ hD2
      rw [hn] at h1 ⊢
      generalize (-crs v u w)⁻¹=r at *
      have:(-(crs v u w)*r)*d=d:=by rw [h1]; grind
      grind
     unfold kA kB
     rw [Rat.div_def,Rat.div_def,Rat.div_def,Rat.div_def,hinv,<-hd]
     constructor
     ·simp only [crs,Pq.cross,Pq.sub]; grind
     ·simp only [crs,Pq.cross,Pq.sub]; grind
    have yu:y ≠ u:=hv.us y (by simp)
    have yw:y ≠ w:=hv.ws y (by simp)
    have r1:RelE ⟨y,w⟩ ⟨w,v⟩:=((hv.r1 _ eM).symm.rev:RelE (Sq.rev ⟨w,y⟩) (Sq.rev ⟨v,w⟩))
    have r2:RelE ⟨y,w⟩ ⟨v,u⟩:=((hv.r4 _ eM).rev:RelE (Sq.rev ⟨w,y⟩) (Sq.rev ⟨u,v⟩))
    have hk:=keep_turn hD2 hg (x:=y) (by simp) (by simp) (by simp) yw hv.vw hv.uw yu r1 r2 (by
     rw [kAB.1,kAB.2]
     rintro ⟨g1,g2,g3⟩
     exact hout y (by simp) ⟨g2,g1,by grind⟩)
    have q1:turnV w (y::t++[u]++[v])=crs v w y:=by
     unfold turnV
     rw [end_snoc]; rfl
    have q2:turnV w (y::t++[u]++[])=crs u w y:=by
     unfold turnV
     rw [List.append_nil,end_snoc]; rfl
    rw [q1,q2]
    have x1:=crs_anti v w y
    have x2:=crs_anti u w y
    rw [x1,x2] at hk
    grind
   | cons w' a'=>
    injection hab with h1 h2
    subst h1
    cases b with
    | nil=>
     right
     have hs2:s=a'/\u=g:=by
      have:=List.append_inj' h2 rfl
      exact ⟨this.1,by simpa using this.2⟩
     obtain ⟨rfl,rfl⟩:=hs2
     have q1:turnV u ([]++v::w::s)=crs (endP w s) u v:=rfl
     have q2:turnV u ([]++w::s)=crs (endP w s) u w:=rfl
     rw [q1,q2]
     have hx:endP w s ∈ s:=by
      obtain ⟨y,t,rfl⟩:∃ y t,s=y::t:=by
       cases s with
       | nil=>exact absurd rfl hs
       | cons y t=>exact ⟨y,t,rfl⟩
      show endP y t ∈ y::t
      rw [end_at]; exact at_mem (by simp)
     have eM:(⟨endP w s,u⟩:Sq) ∈ pathE w (s++[u]):=by rw [path_last]; simp
     exact keep_turn hD hg (by simp [hx]) (by simp) (by simp) (hv.us _ hx) hv.uv.symm hv.uw.symm (hv.ws _ (by simp [hx])) (hv.r4 _ eM) (hv.r1 _ eM).symm (hout _ hx)
    | cons b0 b'=>
     left
     have q1:=turn_app g [] b0 b' v (w::a')
     have q2:=turn_app g [] b0 b' w a'
     exact q1.trans q2.symm
  rcases key with c | c
  ·rw [c]; exact c3
  ·have c4:0 < areaQ (w::(s++[u]))*turnV g (b++a):=by grind
   exact sgn_mul3 c c4
/-- Beside an extreme vertex there are two more. -/
theorem two_ext {v u w:Pq} {l:List Pq} (he:Xtr v l) (mv:v ∈ l) (mu:u ∈ l) (mw:w ∈ l) (uv:u ≠ v) (wv:w ≠ v) (hD:crs v u w ≠ 0):∃ h h',h ∈ l/\h' ∈ l/\h ≠ v/\h' ≠ v/\h ≠ h'/\Xtr h l/\Xtr h' l:=by
 obtain ⟨d,e,hc,hq⟩:=he
 have hl:l ≠ []:=fun c=>by rw [c] at mv; cases mv
 obtain ⟨h,mh,hh⟩:=Lx.max hc l hl
 have hv:h ≠ v:=by
  intro c
  have l1:=hq w mw wv
  have l2:=hh w mw (fun c2=>wv (c2.trans c))
  rw [c] at l2
  exact (l1.add l2).ne (Pq.ext' (by simp only [Pq.add,Pq.sub]; show _=(0:Rat); grind) (by simp only [Pq.add,Pq.sub]; show _=(0:Rat); grind))
 obtain ⟨H,hH⟩:∃ H,H=h.sub v:=⟨_,rfl⟩
 have H0:H ≠ Pq.zero:=by rw [hH]; exact sub_ne hv
 have nH:0 < H.x*H.x+H.y*H.y:=by
  have q1:=sq_nn H.x
  have q2:=sq_nn H.y
  apply Classical.byContradiction
  intro hn
  have z1:H.x*H.x=0:=by grind
  have z2:H.y*H.y=0:=by grind
  apply H0
  refine Pq.ext' ?_ ?_
  ·rcases Rat.mul_eq_zero.1 z1 with c | c<;>exact c
  ·rcases Rat.mul_eq_zero.1 z2 with c | c<;>exact c
 have ex:∃ q0 ∈ l,crs v h q0 ≠ 0:=by
  apply Classical.byContradiction
  intro hn
  have a1:crs v h u=0:=Classical.byContradiction fun c=>hn ⟨u,mu,c⟩
  have a2:crs v h w=0:=Classical.byContradiction fun c=>hn ⟨w,mw,c⟩
  apply hD
  have e1:crs v h u=H.x*(u.y - v.y) - H.y*(u.x - v.x):=by rw [hH]; simp only [crs,Pq.cross,Pq.sub]
  have e2:crs v h w=H.x*(w.y - v.y) - H.y*(w.x - v.x):=by rw [hH]; simp only [crs,Pq.cross,Pq.sub]
  rw [e1] at a1
  rw [e2] at a2
  have e3:crs v u w*(H.x*H.x+H.y*H.y)=0:=by
   simp only [crs,Pq.cross,Pq.sub]
   generalize u.x - v.x=ux at *
   generalize u.y - v.y=uy at *
   generalize w.x - v.x=wx at *
   generalize w.y - v.y=wy at *
   have b1:(ux*wy - uy*wx)*H.x=0:=by
    have:(ux*wy - uy*wx)*H.x=ux*(H.x*wy - H.y*wx) - wx*(H.x*uy - H.y*ux):=by grind
    rw [this,a1,a2]; grind
   have b2:(ux*wy - uy*wx)*H.y=0:=by
    have:(ux*wy - uy*wx)*H.y=uy*(H.x*wy - H.y*wx) - wy*(H.x*uy - H.y*ux):=by grind
    rw [this,a1,a2]; grind
   have:(ux*wy - uy*wx)*(H.x*H.x+H.y*H.y)=(ux*wy - uy*wx)*H.x*H.x+(ux*wy - uy*wx)*H.y*H.y:=by grind
   rw [this,b1,b2]; grind
  rcases Rat.mul_eq_zero.1 e3 with c | c
  ·exact c
  ·exact absurd c (by grind)
 obtain ⟨q0,mq0,hq0⟩:=ex
 -- the normal, towards q0
 obtain ⟨g,hg,hgd,hgH,hgc⟩:∃ g:Pq,0 < g.dot (q0.sub v)/\g.dot (h.sub v)=0/\g.cross H ≠ 0/\True:=by
  by_cases c:0 < crs v h q0
  ·refine ⟨⟨-H.y,H.x⟩,?_,?_,?_,trivial⟩
   ·have:(⟨-H.y,H.x⟩:Pq).dot (q0.sub v)=crs v h q0:=by rw [hH]; simp only [crs,Pq.cross,Pq.sub,Pq.dot]; grind
    rw [this]; exact c
   ·rw [hH]; simp only [Pq.dot,Pq.sub]; grind
   ·simp only [Pq.cross]; grind
  ·refine ⟨⟨H.y,-H.x⟩,?_,?_,?_,trivial⟩
   ·have:(⟨H.y,-H.x⟩:Pq).dot (q0.sub v) = - crs v h q0:=by rw [hH]; simp only [crs,Pq.cross,Pq.sub,Pq.dot]; grind
    rw [this]; grind
   ·rw [hH]; simp only [Pq.dot,Pq.sub]; grind
   ·simp only [Pq.cross]; grind
 obtain ⟨h',mh',hh'⟩:=Lx.max hgH l hl
 have big:0 < g.dot (h'.sub v):=by
  by_cases c:q0=h'
  ·rw [<-c]; exact hg
  ·have:=hh' q0 mq0 c
   have e1:g.dot (h'.sub v)=g.dot (h'.sub q0)+g.dot (q0.sub v):=by simp only [Pq.dot,Pq.sub]; grind
   rcases this with c1 | ⟨c1,_⟩<;>grind
 have z:g.dot (v.sub v)=0:=by simp only [Pq.dot,Pq.sub]; grind
 refine ⟨h,h',mh,mh',hv,fun c=>?_,fun c=>?_,ext_max hc hh,ext_max hgH hh'⟩
 ·rw [c,z] at big; exact absurd big (by decide)
 ·rw [<-c,hgd] at big; exact absurd big (by decide)
theorem three_form {v:Pq} {r:List Pq} (h:Smp (v::r)):∃ w s u,r=w::(s++[u]):=by
 have h3:=h.n3
 match r,h3 with
 | w::y::t,_=>
  exact ⟨w,(y::t).dropLast,(y::t).getLast (by simp),by rw [List.dropLast_concat_getLast]⟩
theorem half2 (x:Rat):x / ((2:Int):Rat)*2=x:=Rat.div_mul_cancel (by decide)
/-- A polygon whose first vertex is extreme. -/
theorem first_sign {N:Nat} (ih:Cl N) {v:Pq} {r:List Pq} (hN:(v::r).length<=N) (h:Smp (v::r)) (he:Xtr v (v::r)):0 < turnV v r*areaQ (v::r):=by
 obtain ⟨w,s,u,rfl⟩:=three_form h
 have hv:=vwu_of h
 have hD:crs v u w ≠ 0:=turn_ne he (by simp) (by simp) hv.uv hv.vw.symm hv.r2.symm
 have hT:turnV v (w::(s++[u]))=crs u v w:=by rw [turn_app0,end_snoc]
 have hT0:crs u v w ≠ 0:=by rw [crs_vu]; grind
 have hTT:0 < crs u v w*crs u v w:=by
  have:=sq_nn (crs u v w)
  have hne:crs u v w*crs u v w ≠ 0:=fun c=>by rcases Rat.mul_eq_zero.1 c with c | c<;>exact hT0 c
  grind
 have fin:∀ c:Rat,0<=crs u v w*c->areaQ (v::w::(s++[u]))=c+crs u v w / ((2:Int):Rat)->0 < crs u v w*areaQ (v::w::(s++[u])):=by
  intro c hc e
  have h2:=half2 (crs u v w)
  rw [e]
  generalize crs u v w / ((2:Int):Rat)=k at *
  have:crs u v w*k*2=crs u v w*crs u v w:=by grind
  grind
 rw [hT]
 by_cases hs:s=[]
 ·subst hs
  have e:=area_ear v w u []
  have e2:areaQ (w::([]++[u]))=0:=by
   unfold areaQ
   rw [edges_wu]
   show sumE crE [⟨w,u⟩,⟨u,w⟩] / _=0
   rw [sumE_cons,sumE_cons]
   have:crE ⟨w,u⟩+(crE ⟨u,w⟩+sumE crE [])=0:=by
    show _+(_+(0:Rat))=0
    simp only [crE,Pq.cross]; grind
   rw [this,Rat.div_def,Rat.zero_mul]
  rw [e2] at e
  exact fin 0 (by rw [Rat.mul_zero]; exact Rat.le_refl) e
 ·obtain ⟨c,hc,hor⟩:=step1 ih hN h he hs
  rcases hor with hor | hor
  ·exact hor
  ·-- two more extreme vertices
   obtain ⟨g,g',mg,mg',gv,gv',gg,xg,xg'⟩:=two_ext he (u:=u) (w:=w) (by simp) (by simp) (by simp) hv.uv hv.vw.symm hD
   have hg:g ∈ w::(s++[u]):=by
    rcases List.mem_cons.1 mg with c | c
    ·exact absurd c gv
    ·exact c
   have hg':g' ∈ w::(s++[u]):=by
    rcases List.mem_cons.1 mg' with c | c
    ·exact absurd c gv'
    ·exact c
   obtain ⟨x,y,hxy⟩:=List.append_of_mem hg'
   -- the polygon from g' on
   have hrot:Smp (g'::(y++v::x)):=by
    have h9:Smp ((v::x)++(g'::y)):=by
     have:(v::x)++(g'::y)=v::w::(s++[u]):=by rw [hxy]; rfl
     rw [this]; exact h
    exact h9.rot
   have hmem:∀ q,q ∈ g'::(y++v::x)->q ∈ v::w::(s++[u]):=by
    intro q hq
    rw [hxy]; simp at hq ⊢; grind
   have hmem2:∀ q,q ∈ v::w::(s++[u])->q ∈ g'::(y++v::x):=by
    intro q hq
    rw [hxy] at hq; simp at hq ⊢; grind
   have hlen:(g'::(y++v::x)).length=(v::w::(s++[u])).length:=by
    rw [hxy]; simp; omega
   obtain ⟨w2,s2,u2,hf⟩:=three_form hrot
   have hs2:s2 ≠ []:=by
    intro c
    rw [hf,c] at hlen
    have h0:s.length ≠ 0:=fun c=>hs (List.eq_nil_of_length_eq_zero c)
    have h3:(g'::w2::(([]:List Pq)++[u2])).length=3:=rfl
    have h4:(v::w::(s++[u])).length=s.length+3:=by simp
    rw [h3,h4] at hlen
    omega
   have hrot':=hrot
   rw [hf] at hrot'
   obtain ⟨c2,hc2,_⟩:=step1 ih (v:=g') (w:=w2) (u:=u2) (s:=s2) (by rw [<-hf,hlen]; exact hN) hrot' (by rw [<-hf]; exact xg'.sub hmem) hs2
   have xv:Xtr v (g'::w2::(s2++[u2])):=by rw [<-hf]; exact he.sub hmem
   have xg2:Xtr g (g'::w2::(s2++[u2])):=by rw [<-hf]; exact xg.sub hmem
   -- v seen from g'
   have a1:=hc2 y v x hf.symm xv
   have a1':turnV v (x++g'::y)=crs u v w:=by rw [<-hxy]; exact hT
   rw [a1'] at a1
   -- g seen from v and from g'
   have a2:∃ tg:Rat,0 < tg*c/\0 < tg*c2:=by
    rw [hxy] at hg
    rcases List.mem_append.1 hg with m | m
    ·obtain ⟨x1,x2,rfl⟩:=List.append_of_mem m
     have b1:=hc x1 g (x2++g'::y) (by rw [hxy]; simp) xg
     have b2:=hc2 (y++v::x1) g x2 (by rw [<-hf]; simp) xg2
     refine ⟨_,b1,?_⟩
     have:x2++g'::(y++v::x1)=x2++g'::y++v::x1:=by simp
     rw [<-this]; exact b2
    ·rcases List.mem_cons.1 m with m | m
     ·exact absurd m gg
     ·obtain ⟨y1,y2,rfl⟩:=List.append_of_mem m
      have b1:=hc (x++g'::y1) g y2 (by rw [hxy]; simp) xg
      have b2:=hc2 y1 g (y2++v::x) (by rw [<-hf]; simp) xg2
      refine ⟨_,b1,?_⟩
      have:y2++v::x++g'::y1=y2++v::(x++g'::y1):=by simp
      rw [<-this]; exact b2
   obtain ⟨tg,t1,t2⟩:=a2
   have t3:=sgn_mul3 a1 t2
   have t4:0 < c*tg:=by grind
   have t5:=sgn_mul3 t3 t4
   exact fin c (Rat.le_of_lt t5) hor
theorem cl_all:∀ N,Cl N
 | 0=>fun a h b hl=>absurd hl (Nat.not_lt_zero _)
 | N+1=>by
  intro a h b hl hS hX
  have hS2:Smp (h::(b++a)):=hS.rot (l1:=a) (l2:=h::b)
  have hX2:Xtr h (h::(b++a)):=hX.sub (fun q hq=>by simp at hq ⊢; grind)
  have hlen:(h::(b++a)).length<=N:=by
   simp only [List.length_append,List.length_cons] at hl ⊢
   omega
  have:=first_sign (cl_all N) hlen hS2 hX2
  have e:areaQ (h::(b++a))=areaQ (a++h::b):=area_rot a (h::b)
  rw [e] at this
  exact this
/-- A simple polygon has an area other than 0. -/
theorem smp_area {l:List Pq} (h:Smp l):areaQ l ≠ 0:=by
 have hc:(⟨1,0⟩:Pq).cross ⟨0,1⟩ ≠ 0:=by intro c; simp only [Pq.cross] at c; grind
 have hl:l ≠ []:=fun c=>by have:=h.n3; rw [c] at this; simp at this
 obtain ⟨p,mp,hp⟩:=Lx.max hc l hl
 have hx:=ext_max hc hp
 obtain ⟨a,b,rfl⟩:=List.append_of_mem mp
 have:=cl_all ((a++p::b).length+1) a p b (Nat.lt_succ_self _) h hx
 intro c
 rw [c,Rat.mul_zero] at this
 exact absurd this (by decide)
theorem rel_next {p q r:Pq} (h:(q.sub p).cross (r.sub p) ≠ 0):RelE ⟨p,q⟩ ⟨q,r⟩:=by
 rintro x ⟨t,t0,t1,ht⟩ ⟨s,s0,s1,hs⟩
 left
 refine ⟨rfl,?_⟩
 have ht:x=p.at q t:=ht
 have hs:x=q.at r s:=hs
 have hx:=congrArg Pq.x (ht.symm.trans hs)
 have hy:=congrArg Pq.y (ht.symm.trans hs)
 simp only [Pq.at,Pq.add,Pq.scale,Pq.sub] at hx hy
 have:(1 - t)*((q.sub p).cross (r.sub p))=0:=by
  simp only [Pq.cross,Pq.sub]
  grind
 rcases Rat.mul_eq_zero.1 this with c | c
 ·have t1':t=1:=by grind
  rw [ht,t1']
  exact Pq.ext' (by simp only [Pq.at,Pq.add,Pq.scale,Pq.sub]; grind) (by simp only [Pq.at,Pq.add,Pq.scale,Pq.sub]; grind)
 ·exact absurd c h
theorem rel_far {e f:Sq} (he:e.a ≠ e.b) (hf:f.a ≠ f.b) (h:meetB e f=false):RelE e f:=by
 intro x h1 h2
 exfalso
 obtain ⟨m,hm,_⟩:=(meet_on he hf x).1 ⟨h1,h2⟩
 have hw:¬ wrongQ e f=true:=by
  rw [wrongQ_iff]; rintro (c | c)
  ·exact he c
  ·exact hf c
 unfold meetB at h
 rw [if_neg hw,hm] at h
 cases h
theorem smp_of {l:List Pq} (h3:3<=l.length) (hf:flatB l=false) (hc:crossB l=false):Smp l:=by
 obtain ⟨n,hn⟩:∃ n,n=l.length:=⟨_,rfl⟩
 have hcr:∀ i,i < n->((at' l i).sub (at' l ((i+n - 1) % n))).cross ((at' l ((i+1) % n)).sub (at' l ((i+n - 1) % n))) ≠ 0:=by
  intro i hi c
  unfold flatB at hf
  rw [List.any_eq_false] at hf
  have:=hf i (by simpa [<-hn] using hi)
  apply this
  unfold flatAt
  rw [decide_eq_true_iff,<-hn]
  unfold orQ
  rw [cmpQ_eq]; exact c
 have hnd:∀ i,i < n->(edgeQ l i).a ≠ (edgeQ l i).b:=by
  intro i hi c
  have h9:=hcr i hi
  unfold edgeQ at c
  simp only at c
  rw [<-hn] at c
  apply h9
  rw [<-c]
  simp only [Pq.cross,Pq.sub]; grind
 have hx:∀ i k,i < n->k < n->i+2<=k->¬ (i=0/\k=n - 1)->meetB (edgeQ l i) (edgeQ l k)=false:=by
  intro i k hi hk hik hne
  unfold crossB at hc
  rw [List.any_eq_false] at hc
  have h1:=hc i (by simpa [<-hn] using hi)
  rw [Bool.not_eq_true,List.any_eq_false] at h1
  have h2:=h1 k (by simpa [<-hn] using hk)
  rw [Bool.not_eq_true,Bool.and_eq_false_iff] at h2
  rcases h2 with h2 | h2
  ·rw [decide_eq_false_iff_not] at h2; exact absurd hik h2
  ·unfold crossAt at h2
   rw [<-hn,Bool.and_eq_false_iff] at h2
   rcases h2 with h2 | h2
   ·simp at h2
    exact absurd h2 hne
   ·exact h2
 refine ⟨h3,fun e he=>?_,?_⟩
 ·unfold edgesQ at he
  obtain ⟨i,hi,rfl⟩:=List.mem_map.1 he
  exact hnd i (by simpa [<-hn] using hi)
 ·rw [List.pairwise_iff_getElem]
  intro i k hi hk hik
  rw [edges_len,<-hn] at hi hk
  rw [edges_get (by rw [<-hn]; exact hi),edges_get (by rw [<-hn]; exact hk)]
  by_cases c1:k=i+1
  ·subst c1
   have h9:=hcr (i+1) hk
   have e1:(i+1+n - 1) % n=i:=by rw [show i+1+n - 1=i+n from by omega,Nat.add_mod_right,Nat.mod_eq_of_lt hi]
   rw [e1] at h9
   have e2:edgeQ l i=⟨at' l i,at' l (i+1)⟩:=by unfold edgeQ; rw [<-hn,Nat.mod_eq_of_lt hk]
   have e3:edgeQ l (i+1)=⟨at' l (i+1),at' l ((i+1+1) % n)⟩:=by unfold edgeQ; rw [<-hn]
   rw [e2,e3]
   exact rel_next h9
  ·by_cases c2:i=0/\k=n - 1
   ·obtain ⟨rfl,rfl⟩:=c2
    have h9:=hcr 0 hi
    have e1:(0+n - 1) % n=n - 1:=by rw [Nat.zero_add,Nat.mod_eq_of_lt (by omega)]
    have e4:(0+1) % n=1:=Nat.mod_eq_of_lt (by omega)
    rw [e1,e4] at h9
    have e2:edgeQ l 0=⟨at' l 0,at' l 1⟩:=by unfold edgeQ; rw [<-hn,e4]
    have e3:edgeQ l (n - 1)=⟨at' l (n - 1),at' l 0⟩:=by unfold edgeQ; rw [<-hn,show n - 1+1=n from by omega,Nat.mod_self]
    rw [e2,e3]
    exact (rel_next h9).symm
   ·exact rel_far (hnd i hi) (hnd k hk) (hx i k hi hk (by omega) c2)
/-- What Check lets through up to the sign of the area has an area. -/
theorem ring_area {l:List Pq} (h3:3<=l.length) (hf:¬ 0<=flatI l) (hc:¬ crossB l=true):areaQ l ≠ 0:=by
 refine smp_area (smp_of h3 ?_ (by simpa using hc))
 rw [<-Bool.not_eq_true]
 exact fun c=>hf ((flatI_iff l).2 c)
theorem edgF_q {ps:List Pt} {n i j r:Int} {p q:Pt} (hn:n=(ps.length:Int)) (he:EdgF ps n i j r p q):(0<=i/\i < (ps.length:Int))/\(0<=r/\r < (ps.length:Int)):=⟨by rw [<-hn]; exact he.in1,by rw [<-hn]; exact he.in2⟩
/-- straight, a round. -/
structure StrI (ps:List Pt) (n i:Int):Prop where
 h0:0<=i
 h1:i<=n
 no:∀ k,k < i.toNat->flatAt (ps.map Pt.q) ((k+1) % ps.length)=false
structure StrF (ps:List Pt) (n i j r:Int) (p q s:Pt) (m:Int):Prop where
 in1:0<=i/\i < (ps.length:Int)
 nz:n ≠ 0
 add:std.ib .add .i64 i 1=j
 rem:std.ib .rem .i64 j n=r
 g1:std.get Pt ps i zQ=p
 k1:Con Tryz.prog 177 [.ro cP ps,.v (.int .i64 i)] (.v q.v)
 k2:Con Tryz.prog 177 [.ro cP ps,.v (.int .i64 r)] (.v s.v)
 co:Con Tryz.prog 197 [.v p.v,.v q.v,.v s.v] (.v (.int .i64 m))
 yes:m=0->flatB (ps.map Pt.q)=true
 no:¬ m=0->StrI ps n j
 mu:(n - j).toNat < (n - i).toNat
theorem strF_ex {k0:Nat} {ps:List Pt} (hp:∀ p ∈ ps,IsP k0 p p.q) (hl:ps.length<=4096) (hk:16*k0+16<=134217728) {n i:Int} (hn:n=(ps.length:Int)) (h:StrI ps n i) (hi:i < n):∃ j r p q s m,StrF ps n i j r p q s m:=by
 have h0:=h.h0
 obtain ⟨j,r,p,q,he⟩:=edgF_ex hn hl h0 hi
 obtain ⟨j2,r2,q2,s,he2⟩:=edgF_ex (i:=r) hn hl he.in2.1 he.in2.2
 have eq2:q2=q:=he2.g1.symm.trans he.g2
 subst eq2
 obtain ⟨m,em,km⟩:=yor_p (hp p he.m1) (hp _ he2.m1) (hp s he2.m2) hk
 have ej:j=i+1:=by have:=he.add; rw [s_add,w64 (by omega) (by omega)] at this; omega
 have er:r.toNat=(i.toNat+1) % ps.length:=by
  have h1:=he.rem
  rw [s_rem,Int.tmod_eq_emod_of_nonneg he.j0,hn,ej] at h1
  have e:((i+1) % (ps.length:Int))=(((i.toNat+1) % ps.length:Nat):Int):=by rw [Int.natCast_emod]; congr 1; omega
  rw [e] at h1
  omega
 have hb:i.toNat < ps.length:=by omega
 have hr:r.toNat < ps.length:=by rw [er]; exact Nat.mod_lt _ (by omega)
 have hfl:flatAt (ps.map Pt.q) ((i.toNat+1) % ps.length)=decide (m=0):=by
  rw [<-er]
  unfold flatAt
  have e1:(r.toNat+ps.length - 1) % ps.length=i.toNat:=by
   rw [er]
   by_cases c:i.toNat+1=ps.length
   ·rw [c,Nat.mod_self,Nat.zero_add,Nat.mod_eq_of_lt (by omega)]; omega
   ·rw [Nat.mod_eq_of_lt (show i.toNat+1 < ps.length by omega),show i.toNat+1+ps.length - 1=i.toNat+ps.length from by omega,Nat.add_mod_right,Nat.mod_eq_of_lt hb]
  have e2:edgeQ (ps.map Pt.q) r.toNat=⟨q2.q,s.q⟩:=he2.e
  unfold edgeQ at e2
  rw [List.length_map] at e2 ⊢
  injection e2 with e3 e4
  rw [e1,e3,e4,map_at hb]
  have e5:ps.getD i.toNat zQ=p:=he.g1
  rw [e5,<-em]
 refine ⟨j,r,p,_,s,m,(edgF_q hn he).1,he.nz,he.add,he.rem,he.g1,next_q hn he,next_q hn he2,km,fun c=>?_,fun c=>⟨he.j0,he.j1,fun k hk=>?_⟩,he.mu⟩
 ·unfold flatB
  rw [List.any_eq_true]
  exact ⟨(i.toNat+1) % ps.length,by rw [List.length_map,List.mem_range]; exact Nat.mod_lt _ (by omega),by rw [hfl]; exact decide_eq_true c⟩
 ·by_cases e:k=i.toNat
  ·rw [e,hfl]; exact decide_eq_false c
  ·exact h.no k (by omega)
theorem straight_q {k0:Nat} {ps:List Pt} (hp:∀ p ∈ ps,IsP k0 p p.q) (hl:ps.length<=4096) (hk:16*k0+16<=134217728):Con Tryz.prog 107 [.ro cP ps] (.v (.bool (flatB (ps.map Pt.q)))):=by
 obtain ⟨r0,e0⟩:∃ r,r=flatB (ps.map Pt.q):=⟨_,rfl⟩
 rw [<-e0]
 obtain ⟨n,hn⟩:∃ n:Int,n=ps.length:=⟨_,rfl⟩
 have hln:std.len Pt ps=n:=by rw [s_len,hn]
 obtain ⟨i0,hi0⟩:∃ i:Int,i=0:=⟨_,rfl⟩
 have tk9:std.tk Pt ps (std.len Pt ps)=ps:=by rw [s_tk,s_len]; exact List.take_of_length_le (by omega)
 have hp0:StrI ps n i0:=⟨by omega,by omega,fun k hk=>by rw [hi0] at hk; exact absurd hk (Nat.not_lt_zero _)⟩
 have hrnd:∀ i,StrI ps n i->i < n->∃ j r p q s m,StrF ps n i j r p q s m:=fun i h h'=>strF_ex hp hl hk hn h h'
 have hyes9:flatB (ps.map Pt.q)=true->true=r0:=fun h=>by rw [e0,h]
 have hfin:∀ i,StrI ps n i->¬ i < n->false=r0:=fun i h h'=>by
  have h1:=h.h1
  rw [e0]
  symm
  rw [<-Bool.not_eq_true]
  intro c
  unfold flatB at c
  rw [List.any_eq_true] at c
  obtain ⟨m,hm,hf⟩:=c
  rw [List.length_map,List.mem_range] at hm
  have hno:=h.no ((m+ps.length - 1) % ps.length) (by have:=Nat.mod_lt (m+ps.length - 1) (show 0 < ps.length by omega); omega)
  have e:((m+ps.length - 1) % ps.length+1) % ps.length=m:=by
   by_cases c:m=0
   ·rw [c,Nat.zero_add,Nat.mod_eq_of_lt (show ps.length - 1 < ps.length by omega),show ps.length - 1+1=ps.length from by omega,Nat.mod_self]
   ·rw [show m+ps.length - 1=(m - 1)+ps.length from by omega,Nat.add_mod_right,Nat.mod_eq_of_lt (show m - 1 < ps.length by omega),show m - 1+1=m from by omega,Nat.mod_eq_of_lt hm]
  rw [e,hf] at hno
  cases hno
 clear e0 hp hl hk
 refine Con.of ttOk mixed Tryz.func107 { ord:=[(5,[0,1,2,3,4,5,7,8,9,10,11,6,12,13,14])] } .nil 0 (by kernel_rfl) (fun P' E hP hE=>?_)
 cbv
 refine LoopTo.by (ι:=Int) (fun x=>[(4,.v (.int .i64 x))]) (fun x=>[]) (fun x=>StrI ps n x) (fun x=>(n - x).toNat) i0 [] hp0 ?_ ?_
 ·cbv
  subst hE
  and_intros
  all_goals first
   | exact True.intro
   | rfl
   | exact vi hi0.symm
   | exact vj hi0.symm
   | (simp; done)
 ·intro i hi
  have hi:StrI ps n i:=hi
  clear hp0
  cbv
  refine fork.mk ?_ ?_
  ·intro g
   have hlt:i < n:=by subst hE; rw [<-hln]; simpa [std] using g
   refine Exists.elim (hrnd i hi hlt) ?_
   intro j h
   refine Exists.elim h ?_
   intro r h
   refine Exists.elim h ?_
   intro p h
   refine Exists.elim h ?_
   intro q h
   refine Exists.elim h ?_
   intro s h
   refine Exists.elim h ?_
   intro m hf
   have in1:=hf.in1
   have hadd:=hf.add
   have hnz:std.nz .rem (std.len Pt ps):=by rw [hln]; exact hf.nz
   have hr9:std.ib .rem .i64 (std.ib .add .i64 i 1) (std.len Pt ps)=r:=by rw [hln,hadd]; exact hf.rem
   have hg1:=hf.g1
   have k1:=hf.k1
   have k2:=hf.k2
   have ko:=hf.co
   have hyes:=hf.yes
   have hno:=hf.no
   have hmu:=hf.mu
   clear hf h hi hlt g
   cbv
   refine Need.mk (by subst hE; exact in1) ?_
   cbv
   refine Need.mk (by subst hE; exact hnz) ?_
   cbv
   refine CallTo.w hP hE k1 ⟨(by subst hE; exact Sm.of (c:=cP) tk9),rfl,trivial⟩ ?_
   cbv
   refine CallTo.w hP hE k2 ⟨(by subst hE; exact Sm.of (c:=cP) tk9),(by subst hE; exact vj hr9),trivial⟩ ?_
   cbv
   refine CallTo.w hP hE ko ⟨(by subst hE; exact congrArg (fun p:Pt=>p.v) hg1),rfl,rfl,trivial⟩ ?_
   cbv
   refine fork.mk ?_ ?_
   ·intro g
    have c1:m=0:=by subst hE; simpa [std] using g
    have hr:=hyes9 (hyes c1)
    cbv
    exact congrArg Value.bool hr
   ·intro g
    have c1:¬ m=0:=by subst hE; simpa [std] using g
    have hst:=hno c1
    cbv
    refine ⟨j,[],hst,hmu,?_⟩
    cbv
    subst hE
    and_intros
    all_goals first
     | exact True.intro
     | rfl
     | exact vi hadd
     | exact vj hadd
     | (simp; done)
  ·intro g
   have hge:¬ i < n:=by subst hE; rw [<-hln]; simpa [std] using g
   have hx:=hfin i hi hge
   cbv
   exact congrArg Value.bool hx
/-- least, a round. -/
structure LstR (ps:List Pt) (n i k:Int) (p q:Pt) (m j:Int):Prop where
 in1:0<=i/\i < (ps.length:Int)
 in2:0<=k/\k < (ps.length:Int)
 g1:std.get Pt ps i zQ=p
 g2:std.get Pt ps k zQ=q
 c:Con Tryz.prog 200 [.v p.v,.v q.v] (.v (.int .i64 m))
 add:std.ib .add .i64 i 1=j
 lt:m < 0->FstI ps n j i
 ge:¬ m < 0->FstI ps n j k
 mu:(n - j).toNat < (n - i).toNat
theorem lstR_ex {k0:Nat} {ps:List Pt} (hp:∀ p ∈ ps,IsP k0 p p.q) (hl:ps.length<=4096) (hk:2*k0<=134217728) {n i k:Int} (hn:n=(ps.length:Int)) (h:FstI ps n i k) (hi:i < n):∃ p q m j,LstR ps n i k p q m j:=by
 have h0:=h.h0
 have hk0:=h.k0
 have hle:=firstTo_le (ps.map Pt.q) i.toNat
 rw [<-h.eq] at hle
 have b1:i.toNat < ps.length:=by omega
 have b2:k.toNat < ps.length:=by omega
 obtain ⟨m,em,km⟩:=ycmp_p (hp _ (getD_mem b1)) (hp _ (getD_mem b2)) (by omega)
 have e:(i+1).toNat=i.toNat+1:=by omega
 have hs:=firstTo_succ (ps.map Pt.q) i.toNat
 rw [<-h.eq,map_at b1,map_at b2,<-em,<-e] at hs
 exact ⟨ps.getD i.toNat zQ,ps.getD k.toNat zQ,m,i+1,⟨⟨h0,by omega⟩,⟨hk0,by omega⟩,rfl,rfl,km,by rw [s_add,w64 (by omega) (by omega)],fun c=>⟨by omega,by omega,h0,by rw [hs,if_pos c]⟩,fun c=>⟨by omega,by omega,hk0,by rw [hs,if_neg c]⟩,by omega⟩⟩
theorem least_q {k0:Nat} {ps:List Pt} (hp:∀ p ∈ ps,IsP k0 p p.q) (h1:1<=ps.length) (hl:ps.length<=4096) (hk:2*k0<=134217728):Con Tryz.prog 105 [.ro cP ps] (.v (.int .i64 (firstI (ps.map Pt.q):Nat))):=by
 obtain ⟨r0,e0⟩:∃ r:Int,r=(firstI (ps.map Pt.q):Nat):=⟨_,rfl⟩
 rw [<-e0]
 obtain ⟨n,hn⟩:∃ n:Int,n=ps.length:=⟨_,rfl⟩
 have hln:std.len Pt ps=n:=by rw [s_len,hn]
 obtain ⟨i0,hi0⟩:∃ i:Int,i=1:=⟨_,rfl⟩
 obtain ⟨k9,hk9⟩:∃ i:Int,i=0:=⟨_,rfl⟩
 have hp0:FstI ps n i0 k9:=⟨by omega,by omega,by omega,by
  rw [hi0,hk9]
  have:=firstTo_succ (ps.map Pt.q) 0
  have e:firstTo (ps.map Pt.q) 0=0:=rfl
  rw [e] at this
  show 0=firstTo (ps.map Pt.q) 1
  rw [this]; split<;>rfl⟩
 have hrnd:∀ i k,FstI ps n i k->i < n->∃ p q m j,LstR ps n i k p q m j:=fun i k h h'=>lstR_ex hp hl hk hn h h'
 have hfin:∀ i k,FstI ps n i k->¬ i < n->k=r0:=fun i k h h'=>by
  have h1:=h.h1
  have h2:=h.k0
  have h3:=h.eq
  have e:i.toNat=(ps.map Pt.q).length:=by rw [List.length_map]; omega
  have e2:firstTo (ps.map Pt.q) (ps.map Pt.q).length=firstI (ps.map Pt.q):=rfl
  rw [e,e2] at h3
  omega
 clear e0
 refine Con.of ttOk mixed Tryz.func105 { ord:=[(5,[0,1,2,3,4,5,6,7,8,9])] } .nil 0 (by kernel_rfl) (fun P' E hP hE=>?_)
 cbv
 refine LoopTo.by (ι:=Int × Int) (fun x=>[(3,.v (.int .i64 x.2)),(4,.v (.int .i64 x.1))]) (fun x=>[]) (fun x=>FstI ps n x.1 x.2) (fun x=>(n - x.1).toNat) (i0,k9) [] hp0 ?_ ?_
 ·cbv
  subst hE
  and_intros
  all_goals first
   | exact True.intro
   | rfl
   | exact vi hi0.symm
   | exact vj hi0.symm
   | exact vi hk9.symm
   | exact vj hk9.symm
   | (simp; done)
 ·rintro ⟨i,k⟩ hi
  have hi:FstI ps n i k:=hi
  clear hp0
  cbv
  refine fork.mk ?_ ?_
  ·intro g
   have hlt:i < n:=by subst hE; rw [<-hln]; simpa [std] using g
   refine Exists.elim (hrnd i k hi hlt) ?_
   intro p h
   refine Exists.elim h ?_
   intro q h
   refine Exists.elim h ?_
   intro m h
   refine Exists.elim h ?_
   intro j hf
   have in1:=hf.in1
   have in2:=hf.in2
   have hg1:=hf.g1
   have hg2:=hf.g2
   have kc:=hf.c
   have hadd:=hf.add
   have hlt9:=hf.lt
   have hge9:=hf.ge
   have hmu:=hf.mu
   clear hf h hi hlt g
   cbv
   refine Need.mk (by subst hE; exact in1) ?_
   cbv
   refine Need.mk (by subst hE; exact in2) ?_
   cbv
   refine CallTo.w hP hE kc ⟨(by subst hE; exact congrArg (fun p:Pt=>p.v) hg1),(by subst hE; exact congrArg (fun p:Pt=>p.v) hg2),trivial⟩ ?_
   cbv
   refine fork.mk ?_ ?_
   ·intro g
    have hst:=hlt9 (by subst hE; simpa [std] using g)
    cbv
    refine ⟨(j,i),[],hst,hmu,?_⟩
    cbv
    subst hE
    and_intros
    all_goals first
     | exact True.intro
     | rfl
     | exact vi hadd
     | exact vj hadd
     | (simp; done)
   ·intro g
    have hst:=hge9 (by subst hE; simpa [std] using g)
    cbv
    refine ⟨(j,k),[],hst,hmu,?_⟩
    cbv
    subst hE
    and_intros
    all_goals first
     | exact True.intro
     | rfl
     | exact vi hadd
     | exact vj hadd
     | (simp; done)
  ·intro g
   have hge:¬ i < n:=by subst hE; rw [<-hln]; simpa [std] using g
   have hx:=hfin i k hi hge
   clear hi hge hfin hrnd g
   subst hx
   cbv
/-- Area, a round. -/
structure SumR (ps:List Pt) (m:Nat) (n i:Int) (s:R) (j r:Int) (p q:Pt) (c s':R):Prop where
 e:EdgF ps n i j r p q
 kn:Con Tryz.prog 177 [.ro cP ps,.v (.int .i64 i)] (.v q.v)
 cr:Con Tryz.prog 180 [.v p.v,.v q.v] (.v c.v)
 ad:Con Tryz.prog 184 [.v s.v,.v c.v] (.v s'.v)
 st:SumI ps m n j s'
theorem sumR_ex {k:Nat} {ps:List Pt} (hp:∀ p ∈ ps,IsP k p p.q) (hl:ps.length<=4096) (hk:40960*k+40960<=134217728) {n i:Int} {s:R} (hn:n=(ps.length:Int)) (h:SumI ps (20480*k+20480) n i s) (hi:i < n):∃ j r p q c s',SumR ps (20480*k+20480) n i s j r p q c s':=by
 obtain ⟨j,r,p,q,he⟩:=edgF_ex hn hl h.h0 hi
 have hk1:1<=k:=(hp p he.m1).b.x.pos
 obtain ⟨c,ec,hc,kc⟩:=ycross_p (hp p he.m1) (hp q he.m2) (by omega)
 obtain ⟨s',es,hs,ka⟩:=xadd_p h.is hc (by omega)
 have e2:sumE crE ((edgesQ (ps.map Pt.q)).take i.toNat)+p.q.cross q.q=sumE crE ((edgesQ (ps.map Pt.q)).take j.toNat):=by rw [he.st,sumE_snoc]; rfl
 refine ⟨j,r,p,q,c,s',he,next_q hn he,kc,ka,he.j0,he.j1,?_⟩
 rw [es,e2]
 exact (sum_bd (by rw [List.length_map]; exact hl) (pts_bd hp) hk1 _).is
theorem yarea_q {k:Nat} {ps:List Pt} (hp:∀ p ∈ ps,IsP k p p.q) (hl:ps.length<=4096) (hk:40960*k+40960<=134217728) (hk1:1<=k):Con Tryz.prog 85 [.ro cP ps] (.v (cr (areaQ (ps.map Pt.q))).v):=by
 obtain ⟨r0,e0⟩:∃ r,r=cr (areaQ (ps.map Pt.q)):=⟨_,rfl⟩
 rw [<-e0]
 obtain ⟨n,hn⟩:∃ n:Int,n=ps.length:=⟨_,rfl⟩
 have hln:std.len Pt ps=n:=by rw [s_len,hn]
 obtain ⟨i0,hi0⟩:∃ i:Int,i=0:=⟨_,rfl⟩
 obtain ⟨s0,hs0⟩:∃ s:R,s=⟨false,⟨#[]⟩,⟨#[]⟩⟩:=⟨_,rfl⟩
 have tk9:std.tk Pt ps (std.len Pt ps)=ps:=by rw [s_tk,s_len]; exact List.take_of_length_le (by omega)
 have hp0:SumI ps (20480*k+20480) n i0 s0:=⟨by omega,by omega,by
  rw [hs0,hi0]
  show Is _ _ (0:Rat)
  have hz:=(Bd.zero (k:=20480*k+20480) (by omega)).is
  have e:cr 0=⟨false,⟨#[]⟩,⟨#[]⟩⟩:=cr_zero
  rw [e] at hz; exact hz⟩
 have hrnd:∀ i s,SumI ps (20480*k+20480) n i s->i < n->∃ j r p q c s',SumR ps (20480*k+20480) n i s j r p q c s':=fun i s h h'=>sumR_ex hp hl hk hn h h'
 have hquo:∀ i s,SumI ps (20480*k+20480) n i s->¬ i < n->Con Tryz.prog 185 [.v s.v] (.v r0.v):=by
  intro i s h h'
  have h3:=h.h1
  have h4:=xhalf_q h.is (by omega)
  rw [edges_all (by rw [List.length_map]; omega)] at h4
  rw [e0]; exact h4
 clear e0 hp hl hk hk1
 refine Con.of ttOk mixed Tryz.func85 { ord:=[(5,[0,1,2,3,4,5,6,7,8,9,10])] } .nil 0 (by kernel_rfl) (fun P' E hP hE=>?_)
 cbv
 refine LoopTo.by (ι:=Int × R) (fun x=>[(4,.v (.int .i64 x.1))]) (fun x=>[(2,.cells x.2.av 31)]) (fun x=>SumI ps (20480*k+20480) n x.1 x.2) (fun x=>(n - x.1).toNat) (i0,s0) [] hp0 ?_ ?_
 ·cbv
  subst hE
  and_intros
  all_goals first
   | exact True.intro
   | rfl
   | exact vi hi0.symm
   | exact vj hi0.symm
   | exact congrArg (fun s:R=>AV.v (Value.bool s.neg)) hs0.symm
   | exact congrArg (fun s:R=>AV.v (Value.string s.num)) hs0.symm
   | exact congrArg (fun s:R=>AV.v (Value.string s.den)) hs0.symm
   | (intro h; cases h; done)
   | (simp; done)
 ·rintro ⟨i,s⟩ hi
  have hi:SumI ps (20480*k+20480) n i s:=hi
  clear hp0
  cbv
  refine fork.mk ?_ ?_
  ·intro g
   have hlt:i < n:=by subst hE; rw [<-hln]; simpa [std] using g
   refine Exists.elim (hrnd i s hi hlt) ?_
   intro j h
   refine Exists.elim h ?_
   intro r h
   refine Exists.elim h ?_
   intro p h
   refine Exists.elim h ?_
   intro q h
   refine Exists.elim h ?_
   intro c h
   refine Exists.elim h ?_
   intro s' hf
   have hn:n=(ps.length:Int):=hn
   have in1:0<=i/\i < (ps.length:Int):=by rw [<-hn]; exact hf.e.in1
   have hadd:=hf.e.add
   have hg1:=hf.e.g1
   have kn:=hf.kn
   have kcr:=hf.cr
   have kad:=hf.ad
   have hst:=hf.st
   have hmu:=hf.e.mu
   clear hf h hi hlt g
   cbv
   refine Need.mk (by subst hE; exact in1) ?_
   cbv
   refine CallTo.w hP hE kn ⟨(by subst hE; exact Sm.of (c:=cP) tk9),rfl,trivial⟩ ?_
   cbv
   refine CallTo.w hP hE kcr ⟨(by subst hE; exact congrArg (fun p:Pt=>p.v) hg1),rfl,trivial⟩ ?_
   cbv
   refine CallTo.w hP hE kad ⟨rfl,rfl,trivial⟩ ?_
   cbv
   refine ⟨(j,s'),[],hst,hmu,?_⟩
   cbv
   subst hE
   and_intros
   all_goals first
    | exact True.intro
    | rfl
    | exact vi hadd
    | exact vj hadd
    | (simp; done)
    | (intro h; cases h; done)
  ·intro g
   have hge:¬ i < n:=by subst hE; rw [<-hln]; simpa [std] using g
   have hx:=hquo i s hi hge
   clear hi hge hquo hrnd g
   cbv
   refine CallTo.w hP hE hx ⟨rfl,trivial⟩ ?_
   cbv
end Go.Proofs.YtkipmmiiackdaaaGreat.Sx
