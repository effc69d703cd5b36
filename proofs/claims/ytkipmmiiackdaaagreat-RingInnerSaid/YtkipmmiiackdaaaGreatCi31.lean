/- Part 31 of what the statement needs: an executor of Go texts, arithmetic, and contracts of the functions that are called. -/
import Derived.Test.YtkipmmiiackdaaaGreatCi25
import Derived.Test.YtkipmmiiackdaaaGreatCi26
set_option linter.unusedSimpArgs false
set_option linter.unusedVariables false
namespace Go.Proofs.YtkipmmiiackdaaaGreat.Sx
open Env (std)
theorem firstTo_min (l:List Pq):∀ n k,k < n->leP (at' l (firstTo l n)) (at' l k)
 | 0,k,h=>absurd h (Nat.not_lt_zero _)
 | n+1,k,h=>by
  rw [firstTo_succ]
  by_cases c:n=0
  ·subst c
   have hk:k=0:=by omega
   subst hk
   have e:firstTo l 0=0:=rfl
   rw [e]
   split<;>exact leP_refl _
  ·by_cases hk:k=n
   ·subst hk
    split
    ·exact leP_refl _
    ·rename_i g
     exact leP_cmp'.1 (by omega)
   ·have:=firstTo_min l n k (by omega)
    split
    ·rename_i g
     exact leP_trans (leP_cmp.1 (by omega)) this
    ·exact this
theorem firstI_min (l:List Pq) {k:Nat} (h:k < l.length):leP (at' l (firstI l)) (at' l k):=firstTo_min l l.length k h
theorem at_inj {l:List Pq} (h:l.Pairwise (· ≠ ·)) {i k:Nat} (hi:i < l.length) (hk:k < l.length) (e:at' l i=at' l k):i=k:=by
 rw [List.pairwise_iff_getElem] at h
 have g:∀ j,(hj:j < l.length)->at' l j=l[j]:=fun j hj=>by
  have:=at_lt hj; rw [List.getElem?_eq_getElem hj] at this; exact (Option.some.inj this).symm
 rw [g i hi,g k hk] at e
 rcases Nat.lt_trichotomy i k with c | c | c
 ·exact absurd e (h i k hi hk c)
 ·exact c
 ·exact absurd e.symm (h k i hk hi c)
/-- What a canonical ring is. -/
structure Rg (A:List Pq):Prop where
 gd:Gd A
 sm:Smp A
 ar:0 < areaQ A
 fi:firstI A=0
theorem Rg.of {A:List Pq} (h3:3<=A.length) (hf:¬ 0<=flatI A) (hc:¬ crossB A=true) (ha:¬ cmpQ (areaQ A) 0<=0) (h0:firstI A=0):Rg A:=by
 have hfl:flatB A=false:=by
  rw [<-Bool.not_eq_true]; exact fun c=>hf ((flatI_iff A).2 c)
 refine ⟨Gd.of h3 hfl,smp_of h3 hfl (by simpa using hc),?_,h0⟩
 rw [cmpQ_le] at ha
 grind
theorem at_w0 (p q:Pq):p.at q 0=p:=Pq.ext' (by simp only [Pq.at,Pq.add,Pq.scale,Pq.sub]; grind) (by simp only [Pq.at,Pq.add,Pq.scale,Pq.sub]; grind)
theorem at_w1 (p q:Pq):p.at q 1=q:=Pq.ext' (by simp only [Pq.at,Pq.add,Pq.scale,Pq.sub]; grind) (by simp only [Pq.at,Pq.add,Pq.scale,Pq.sub]; grind)
/-- Left turns everywhere. -/
def Tn (P:List Pq):Prop:=∀ h r,IsRot P (h::r)->0 < turnV h r
theorem path_a:∀ {w:Pq} {s:List Pq} {z:Pq} {e:Sq},e ∈ pathE w (s++[z])->e.a ∈ w::s/\e.b ∈ s++[z]
 | w,[],z,e,h=>by
  simp only [List.nil_append,pathE,List.mem_singleton] at h
  subst h; exact ⟨by simp,by simp⟩
 | w,x::s,z,e,h=>by
  rcases List.mem_cons.1 h with rfl | h
  ·exact ⟨by simp,by simp⟩
  ·have:=path_a (w:=x) (s:=s) (z:=z) h
   exact ⟨List.mem_cons_of_mem _ this.1,List.mem_cons_of_mem _ this.2⟩
theorem ne_of_crs {p q x:Pq} (h:0 < crs p q x):x ≠ p/\x ≠ q/\p ≠ q:=by
 refine ⟨?_,?_,?_⟩<;>intro e<;>subst e<;>simp only [crs,Pq.cross,Pq.sub] at h<;>grind
theorem crs_at (p q a b:Pq) (t:Rat):crs p q (a.at b t)=crs p q a*(1 - t)+crs p q b*t:=by
 simp only [crs,Pq.cross,Pq.sub,Pq.at,Pq.add,Pq.scale]; grind
theorem on_line {p q x:Pq} (h:OnS ⟨q,p⟩ x):crs p q x=0:=by
 obtain ⟨t,_,_,rfl⟩:=h
 simp only [crs,Pq.cross,Pq.sub,Pq.at,Pq.add,Pq.scale]; grind
/-- The chain from p to q beyond their line, closed. -/
theorem pocket_smp {p c1 q:Pq} {c r:List Pq} (h:Smp (p::c1::(c++q::r))) (hc:∀ x ∈ c1::c,0 < crs p q x):Smp (p::c1::(c++[q])):=by
 have hcc:=hc c1 (by simp)
 have hpq:=(ne_of_crs hcc).2.2
 have e1:edgesQ (p::c1::(c++[q]))=pathE p (c1::(c++[q]))++[⟨q,p⟩]:=by
  rw [edges_cons,show endP p (c1::(c++[q]))=q from end_app p (c1::c) q []]
 have e2:edgesQ (p::c1::(c++q::r))=pathE p (c1::(c++[q]))++(pathE q r++[⟨endP q r,p⟩]):=by
  rw [edges_cons]
  have h1:pathE p (c1::(c++q::r))=pathE p (c1::(c++[q]))++pathE q r:=path_split p q (c1::c) r
  have h2:endP p (c1::(c++q::r))=endP q r:=end_app p (c1::c) q r
  rw [h1,h2,List.append_assoc]
 have hnd:=h.nd
 have hpw:=h.pw
 rw [e2] at hnd hpw
 refine ⟨by simp,fun e he=>?_,?_⟩
 ·rw [e1] at he
  rcases List.mem_append.1 he with he | he
  ·exact hnd e (List.mem_append_left _ he)
  ·rw [List.mem_singleton.1 he]; exact hpq.symm
 ·rw [e1,List.pairwise_append]
  refine ⟨(List.pairwise_append.1 hpw).1,List.pairwise_singleton _ _,fun e he f hf=>?_⟩
  rw [List.mem_singleton.1 hf]
  intro x hx hx2
  have h0:=on_line hx2
  obtain ⟨t,t0,t1,ht⟩:=hx
  have h3:=crs_at p q e.a e.b t
  rw [<-ht,h0] at h3
  rcases List.mem_cons.1 he with rfl | he
  ·-- the first edge
   have h4:crs p q p=0:=by simp only [crs,Pq.cross,Pq.sub]; grind
   have h3:0=crs p q p*(1 - t)+crs p q c1*t:=h3
   rw [h4] at h3
   have:crs p q c1*t=0:=by grind
   rcases Rat.mul_eq_zero.1 this with g | g
   ·grind
   ·right
    refine ⟨rfl,?_⟩
    rw [ht,g]; exact at_w0 _ _
  ·have hab:=path_a he
   have ha:=hc _ hab.1
   rcases List.mem_append.1 hab.2 with hb | hb
   ·exfalso
    have hb:=hc _ (List.mem_cons_of_mem _ hb)
    have g1:=Rat.mul_nonneg (Rat.le_of_lt ha) (show 0<=1 - t by grind)
    have g2:=Rat.mul_nonneg (Rat.le_of_lt hb) t0
    have g3:crs p q e.a*(1 - t)=0:=by grind
    have g4:crs p q e.b*t=0:=by grind
    rcases Rat.mul_eq_zero.1 g3 with g | g
    ·grind
    ·rcases Rat.mul_eq_zero.1 g4 with g' | g'
     ·grind
     ·grind
   ·have hb:=List.mem_singleton.1 hb
    have h4:crs p q e.b=0:=by rw [hb]; simp only [crs,Pq.cross,Pq.sub]; grind
    rw [h4] at h3
    have:crs p q e.a*(1 - t)=0:=by grind
    rcases Rat.mul_eq_zero.1 this with g | g
    ·grind
    ·left
     have t1':t=1:=by grind
     refine ⟨hb,?_⟩
     rw [ht,t1']; exact at_w1 _ _
theorem norm_xtr {p q:Pq} {l:List Pq} (hpq:p ≠ q) (h:∀ x ∈ l,x ≠ p->x ≠ q->0 < crs p q x):Xtr p l:=by
 refine ⟨⟨p.y - q.y,q.x - p.x⟩,q.sub p,?_,fun x hx hxp=>?_⟩
 ·intro c
  simp only [Pq.cross,Pq.sub] at c
  have h1:=sq_nn (q.x - p.x)
  have h2:=sq_nn (q.y - p.y)
  have e1:(q.x - p.x)*(q.x - p.x)=0:=by grind
  have e2:(q.y - p.y)*(q.y - p.y)=0:=by grind
  apply hpq
  refine Pq.ext' ?_ ?_
  ·rcases Rat.mul_eq_zero.1 e1 with g | g<;>grind
  ·rcases Rat.mul_eq_zero.1 e2 with g | g<;>grind
 ·unfold Lx
  by_cases e:x=q
  ·right
   subst e
   refine ⟨by simp only [Pq.dot,Pq.sub]; grind,?_⟩
   have h1:=sq_nn (x.x - p.x)
   have h2:=sq_nn (x.y - p.y)
   simp only [Pq.dot,Pq.sub]
   refine Decidable.byContradiction fun c=>hpq ?_
   have e1:(x.x - p.x)*(x.x - p.x)=0:=by grind
   have e2:(x.y - p.y)*(x.y - p.y)=0:=by grind
   refine Pq.ext' ?_ ?_
   ·rcases Rat.mul_eq_zero.1 e1 with g | g<;>grind
   ·rcases Rat.mul_eq_zero.1 e2 with g | g<;>grind
  ·left
   have:=h x hx hxp e
   simp only [crs,Pq.cross,Pq.sub,Pq.dot] at this ⊢
   grind
theorem mem_split {x:Pq} {l:List Pq} (h:x ∈ l):∃ a b,l=a++x::b:=List.append_of_mem h
/-- No chain of left turns lies beyond the line of its ends. -/
theorem pocket {P:List Pq} (hs:Smp P) (ht:Tn P) {p c1 q:Pq} {c r:List Pq} (hr:IsRot P (p::c1::(c++q::r))) (hc:∀ x ∈ c1::c,0 < crs p q x):False:=by
 have hQ:=pocket_smp (hr.smp hs) hc
 have hcc:=hc c1 (by simp)
 have hne:=ne_of_crs hcc
 have hx:Xtr p (p::c1::(c++[q])):=norm_xtr hne.2.2 (fun x hx h1 h2=>by
  rcases List.mem_cons.1 hx with e | hx
  ·exact absurd e h1
  ·rw [<-List.cons_append] at hx
   rcases List.mem_append.1 hx with hx | hx
   ·exact hc x hx
   ·exact absurd (List.mem_singleton.1 hx) h2)
 have hcl:=cl_all ((p::c1::(c++[q])).length+1)
 have h1:=hcl [] p (c1::(c++[q])) (by simp) hQ hx
 have e1:turnV p (c1::(c++[q])++[]) = - crs p q c1:=by
  rw [List.append_nil]
  show crs (endP p (c1::(c++[q]))) p c1=_
  rw [show endP p (c1::(c++[q]))=q from end_app p (c1::c) q []]
  simp only [crs,Pq.cross,Pq.sub]; grind
 rw [e1] at h1
 have h1:0 < - crs p q c1*areaQ (p::c1::(c++[q])):=h1
 obtain ⟨a,ha⟩:∃ a,a=areaQ (p::c1::(c++[q])):=⟨_,rfl⟩
 rw [<-ha] at h1
 have haneg:a < 0:=by
  refine Decidable.byContradiction fun g=>?_
  have:=Rat.mul_nonneg (Rat.le_of_lt hcc) (show 0<=a by grind)
  grind
 obtain ⟨h,h',mh,mh',hv,hv',hh,xh,xh'⟩:=two_ext hx (by simp) (u:=q) (w:=c1) (by simp) (by simp) hne.2.2.symm hne.1 (by
  have:crs p q c1 ≠ 0:=by grind
  exact this)
 have pick:∃ g,g ∈ c1::c/\Xtr g (p::c1::(c++[q])):=by
  have aux:∀ g,g ∈ p::c1::(c++[q])->g ≠ p->g ≠ q->g ∈ c1::c:=by
   intro g hg h1 h2
   rcases List.mem_cons.1 hg with e | hg
   ·exact absurd e h1
   ·rw [<-List.cons_append] at hg
    rcases List.mem_append.1 hg with hg | hg
    ·exact hg
    ·exact absurd (List.mem_singleton.1 hg) h2
  by_cases e:h=q
  ·exact ⟨h',aux h' mh' hv' (fun e'=>hh (e.trans e'.symm)),xh'⟩
  ·exact ⟨h,aux h mh hv e,xh⟩
 obtain ⟨g,mg,xg⟩:=pick
 obtain ⟨c2,c3,hg⟩:=mem_split mg
 have e2:p::c1::(c++[q])=(p::c2)++g::(c3++[q]):=by
  rw [<-List.cons_append,hg]; simp
 have h2:=hcl (p::c2) g (c3++[q]) (by rw [<-e2]; omega) (by rw [<-e2]; exact hQ) (by rw [<-e2]; exact xg)
 rw [<-e2,<-ha,turn_app g c3 q [] p c2] at h2
 have h3:=ht g (c3++q::r++p::c2) (hr.trans ⟨p::c2,g::(c3++q::r),by rw [<-List.cons_append,hg]; simp,by simp⟩)
 rw [turn_app g c3 q r p c2] at h3
 have:=Rat.mul_pos h3 (show 0 < -a by grind)
 grind
theorem vec_id (a b c:Pq):a.cross b*c.x+b.cross c*a.x+c.cross a*b.x=0/\a.cross b*c.y+b.cross c*a.y+c.cross a*b.y=0:=by
 constructor<;>simp only [Pq.cross]<;>grind
theorem Lx.pos3 {d e a b c:Pq} (ha:Lx d e a) (hb:Lx d e b) (hc:Lx d e c) {x y z:Rat} (hx:0 < x) (hy:0<=y) (hz:0<=z) (h1:x*c.x+y*a.x+z*b.x=0) (h2:x*c.y+y*a.y+z*b.y=0):False:=by
 have s1:∀ v t,Lx d e v->0<=t->0<=t*d.dot v/\(d.dot v=0->0<=t*e.dot v):=by
  intro v t hv h0
  rcases hv with g | ⟨g,g'⟩
  ·exact ⟨Rat.mul_nonneg h0 (Rat.le_of_lt g),fun c=>by grind⟩
  ·exact ⟨by rw [g]; grind,fun _=>Rat.mul_nonneg h0 (Rat.le_of_lt g')⟩
 have a1:=s1 a y ha hy
 have b1:=s1 b z hb hz
 have e1:x*d.dot c+y*d.dot a+z*d.dot b=0:=by
  simp only [Pq.dot]; grind
 have e2:x*e.dot c+y*e.dot a+z*e.dot b=0:=by
  simp only [Pq.dot]; grind
 rcases hc with g | ⟨g,g'⟩
 ·have:=Rat.mul_pos hx g; grind
 ·have hp:=Rat.mul_pos hx g'
  rw [g] at e1
  have z1:y*d.dot a=0:=by grind
  have z2:z*d.dot b=0:=by grind
  have q1:0<=y*e.dot a:=by
   rcases Rat.mul_eq_zero.1 z1 with k | k
   ·rw [k]; grind
   ·exact a1.2 k
  have q2:0<=z*e.dot b:=by
   rcases Rat.mul_eq_zero.1 z2 with k | k
   ·rw [k]; grind
   ·exact b1.2 k
  grind
/-- Around an extreme vertex: the least direction. -/
theorem least_dir {b d e:Pq}:∀ (l:List Pq),l ≠ []->(∀ q ∈ l,Lx d e (q.sub b))->∃ h ∈ l,∀ q ∈ l,0<=crs b h q
 | [],h,_=>absurd rfl h
 | [x],_,_=>⟨x,by simp,fun q hq=>by rw [List.mem_singleton.1 hq]; simp only [crs,Pq.cross,Pq.sub]; grind⟩
 | x::y::l,_,hl=>by
  obtain ⟨h,hm,hh⟩:=least_dir (b:=b) (d:=d) (e:=e) (y::l) (by simp) (fun q hq=>hl q (List.mem_cons_of_mem _ hq))
  by_cases c:0<=crs b h x
  ·refine ⟨h,List.mem_cons_of_mem _ hm,fun q hq=>?_⟩
   rcases List.mem_cons.1 hq with rfl | hq
   ·exact c
   ·exact hh q hq
  ·refine ⟨x,by simp,fun q hq=>?_⟩
   rcases List.mem_cons.1 hq with rfl | hq
   ·simp only [crs,Pq.cross,Pq.sub]; grind
   ·refine Decidable.byContradiction fun g=>?_
    have h1:=hh q hq
    have hv:=vec_id (x.sub b) (h.sub b) (q.sub b)
    have k1:0 < (x.sub b).cross (h.sub b):=by
     simp only [crs,Pq.cross,Pq.sub] at c ⊢; grind
    have k2:0<=(h.sub b).cross (q.sub b):=h1
    have k3:0<=(q.sub b).cross (x.sub b):=by
     simp only [crs,Pq.cross,Pq.sub] at g ⊢; grind
    exact (hl x (by simp)).pos3 (hl h (List.mem_cons_of_mem _ hm)) (hl q (List.mem_cons_of_mem _ hq)) k1 k2 k3 hv.1 hv.2
theorem Lx.ray {d e u v:Pq} (hu:Lx d e u) (hv:Lx d e v) (h:u.cross v=0):∃ k:Rat,0 < k/\v.x=k*u.x/\v.y=k*u.y:=by
 have hne:¬ (u.x=0/\u.y=0):=fun c=>hu.ne (Pq.ext' c.1 c.2)
 obtain ⟨k,h1,h2⟩:=par hne h
 refine ⟨k,?_,h1,h2⟩
 refine Decidable.byContradiction fun c=>?_
 exact hu.pos3 hu hv (x:=1) (y := -k) (z:=0) (by decide) (by grind) (by decide) (by grind) (by grind)
/-- The first one with a property. -/
theorem first_with (p:Pq->Prop):∀ (l:List Pq),(∃ x ∈ l,p x)->∃ a x b,l=a++x::b/\p x/\∀ y ∈ a,¬ p y
 | [],h=>by obtain ⟨x,hx,_⟩:=h; cases hx
 | y::l,h=>by
  by_cases c:p y
  ·exact ⟨[],y,l,rfl,c,fun z hz=>by cases hz⟩
  ·obtain ⟨x,hx,px⟩:=h
   rcases List.mem_cons.1 hx with rfl | hx
   ·exact absurd px c
   ·obtain ⟨a,x',b,e,h1,h2⟩:=first_with p l ⟨x,hx,px⟩
    refine ⟨y::a,x',b,by rw [e]; rfl,h1,fun z hz=>?_⟩
    rcases List.mem_cons.1 hz with rfl | hz
    ·exact c
    ·exact h2 z hz
theorem cons_ne {b:Pq} {l:List Pq} (h:(b::l).Pairwise (· ≠ ·)) {q:Pq} (hq:q ∈ l):q ≠ b:=fun e=>(List.pairwise_cons.1 h).1 q hq e.symm
/-- All vertices lie on the left of the edge behind an extreme vertex. -/
theorem ext_step {P:List Pq} (hs:Smp P) (ht:Tn P) {b c:Pq} {s:List Pq} (hr:IsRot P (b::c::s)) (hx:Xtr b P):∀ q ∈ s,0 < crs b c q:=by
 have hS:=hr.smp hs
 have hd:=hS.dist
 obtain ⟨d,e,hde,hq⟩:=hx
 have hL:∀ q ∈ c::s,Lx d e (q.sub b):=fun q hq'=>hq q (hr.mem.2 (List.mem_cons_of_mem _ hq')) (cons_ne hd hq')
 obtain ⟨h,mh,hh⟩:=least_dir (c::s) (by simp) hL
 -- the first one on the least direction is c
 have hc:∀ q ∈ c::s,0<=crs b c q:=by
  obtain ⟨t1,h1,t2,e1,p1,n1⟩:=first_with (fun x=>∀ q ∈ c::s,0<=crs b x q) (c::s) ⟨h,mh,hh⟩
  cases t1 with
  | nil=>
   have:c=h1:=(List.cons.inj e1).1
   rw [this]; exact fun q hq'=>p1 q (this ▸ hq')
  | cons c' t1=>
   exfalso
   have e2:c=c'/\s=t1++h1::t2:=List.cons.inj e1
   have mh1:h1 ∈ c::s:=by rw [e1]; simp
   refine pocket hs ht (p:=b) (c1:=c) (q:=h1) (c:=t1) (r:=t2) (by rw [<-e2.2]; exact hr) (fun x hx'=>?_)
   have mx:x ∈ c::s:=by
    rw [e2.2]
    rcases List.mem_cons.1 hx' with rfl | g
    ·simp
    ·simp [g]
   have g1:=p1 x mx
   refine Decidable.byContradiction fun g2=>?_
   have g3:(h1.sub b).cross (x.sub b)=0:=by
    have:crs b h1 x=0:=by grind
    exact this
   obtain ⟨k,k0,kx,ky⟩:=(hL h1 mh1).ray (hL x mx) g3
   apply n1 x (by rw [<-e2.1]; exact hx')
   intro q hq'
   have:=p1 q hq'
   have e4:crs b x q=k*crs b h1 q:=by
    show (x.sub b).cross (q.sub b)=k*(h1.sub b).cross (q.sub b)
    unfold Pq.cross
    rw [kx,ky]; grind
   rw [e4]
   exact Rat.mul_nonneg (Rat.le_of_lt k0) this
 -- and no other one lies on it
 have hz:¬ ∃ q ∈ s,crs b c q=0:=by
  intro hex
  obtain ⟨t1,q1,t2,e1,p1,n1⟩:=first_with (fun x=>crs b c x=0) s hex
  have mq:q1 ∈ c::s:=by rw [e1]; simp
  obtain ⟨k,k0,kx,ky⟩:=(hL c (by simp)).ray (hL q1 mq) p1
  have kx:q1.x - b.x=k*(c.x - b.x):=kx
  have ky:q1.y - b.y=k*(c.y - b.y):=ky
  have hcq:q1 ≠ c:=by
   have:=(List.pairwise_cons.1 (List.pairwise_cons.1 hd).2).1 q1 (by rw [e1]; simp)
   exact fun g=>this g.symm
  have hqb:q1 ≠ b:=cons_ne hd mq
  by_cases k1:k<=1
  ·-- q1 would lie on the edge b c
   have hon:OnS ⟨b,c⟩ q1:=onS_iff.2 ⟨k,Rat.le_of_lt k0,k1,by show q1.x=b.x+(c.x - b.x)*k; grind,by show q1.y=b.y+(c.y - b.y)*k; grind⟩
   have e2:edgesQ (b::c::s)=⟨b,c⟩::(pathE c s++[⟨endP c s,b⟩]):=by rw [edges_cons]; rfl
   have hp:=hS.pw
   rw [e2,List.pairwise_cons] at hp
   have:∃ f ∈ pathE c s++[⟨endP c s,b⟩],f.a=q1:=by
    have e3:pathE c s++[⟨endP c s,b⟩]=pathE c (s++[b]):=(path_last c b s).symm
    rw [e3]
    exact path_start mq
   obtain ⟨f,hf,ef⟩:=this
   have ho2:OnS f q1:=ef ▸ at_on.1
   rcases hp.1 f hf q1 hon ho2 with ⟨g,_⟩ | ⟨g,g'⟩
   ·exact hcq (ef ▸ g.symm)
   ·exact hqb (g'.trans g)
  ·have hr2:IsRot P (c::(t1++q1::(t2++[b]))):=hr.trans ⟨[b],c::s,rfl,by rw [e1]; simp⟩
   cases t1 with
   | nil=>
    have:=ht c (q1::(t2++[b])) hr2
    have e4:turnV c (q1::(t2++[b]))=crs b c q1:=by
     show crs (endP c (q1::(t2++[b]))) c q1=_
     rw [show endP c (q1::(t2++[b]))=b from end_app c (q1::t2) b []]
    rw [e4,p1] at this
    grind
   | cons x t1=>
    refine pocket hs ht (p:=c) (c1:=x) (q:=q1) (c:=t1) (r:=t2++[b]) hr2 (fun y hy=>?_)
    have my:y ∈ c::s:=by
     rw [e1]
     rcases List.mem_cons.1 hy with rfl | g
     ·simp
     ·simp [g]
    have h1:=hc y my
    have h2:=n1 y hy
    have h3:0 < crs b c y:=by grind
    have h4:=Rat.mul_pos (show 0 < k - 1 by grind) h3
    have e5:crs c q1 y=(k - 1)*crs b c y:=by
     simp only [crs,Pq.cross,Pq.sub]
     have ex:q1.x=b.x+k*(c.x - b.x):=by grind
     have ey:q1.y=b.y+k*(c.y - b.y):=by grind
     rw [ex,ey]; grind
    rw [e5]; exact h4
 intro q hq'
 have h1:=hc q (List.mem_cons_of_mem _ hq')
 refine Decidable.byContradiction fun g=>hz ⟨q,hq',by grind⟩
theorem norm_xtr2 {p q:Pq} {l:List Pq} (hpq:p ≠ q) (h:∀ x ∈ l,x ≠ p->x ≠ q->0 < crs q p x):Xtr p l:=by
 refine ⟨⟨q.y - p.y,p.x - q.x⟩,q.sub p,?_,fun x hx hxp=>?_⟩
 ·intro c
  simp only [Pq.cross,Pq.sub] at c
  have h1:=sq_nn (q.x - p.x)
  have h2:=sq_nn (q.y - p.y)
  have e1:(q.x - p.x)*(q.x - p.x)=0:=by grind
  have e2:(q.y - p.y)*(q.y - p.y)=0:=by grind
  apply hpq
  refine Pq.ext' ?_ ?_
  ·rcases Rat.mul_eq_zero.1 e1 with g | g<;>grind
  ·rcases Rat.mul_eq_zero.1 e2 with g | g<;>grind
 ·unfold Lx
  by_cases e:x=q
  ·right
   subst e
   refine ⟨by simp only [Pq.dot,Pq.sub]; grind,?_⟩
   have h1:=sq_nn (x.x - p.x)
   have h2:=sq_nn (x.y - p.y)
   simp only [Pq.dot,Pq.sub]
   refine Decidable.byContradiction fun c=>hpq ?_
   have e1:(x.x - p.x)*(x.x - p.x)=0:=by grind
   have e2:(x.y - p.y)*(x.y - p.y)=0:=by grind
   refine Pq.ext' ?_ ?_
   ·rcases Rat.mul_eq_zero.1 e1 with g | g<;>grind
   ·rcases Rat.mul_eq_zero.1 e2 with g | g<;>grind
  ·left
   have:=h x hx hxp e
   simp only [crs,Pq.cross,Pq.sub,Pq.dot] at this ⊢
   grind
theorem all_ext {P Q0:List Pq} (hs:Smp P) (ht:Tn P) (hq:IsRot P Q0) (h0:∀ h r,Q0=h::r->Xtr h P):∀ (n:Nat) (u v:List Pq),u.length=n->Q0=u++v->∀ b r,v=b::r->Xtr b P:=by
 intro n
 induction n with
 | zero=>
  intro u v hu he b r hv
  rw [List.eq_nil_of_length_eq_zero hu,List.nil_append] at he
  exact h0 b r (he.trans hv)
 | succ n ih=>
  intro u v hu he b r hv
  have hne:u ≠ []:=fun c=>by rw [c] at hu; simp at hu
  obtain ⟨u',a,rfl⟩:∃ u' a,u=u'++[a]:=⟨u.dropLast,u.getLast hne,(List.dropLast_concat_getLast hne).symm⟩
  have hxa:=ih u' (a::v) (by simpa using hu) (by rw [he]; simp) a v rfl
  have hr:IsRot P (a::b::(r++u')):=hq.trans ⟨u',a::b::r,by rw [he,hv]; simp,by simp⟩
  have hstep:=ext_step hs ht hr hxa
  have hd:=(hr.smp hs).dist
  have hba:b ≠ a:=cons_ne hd (by simp)
  refine norm_xtr2 hba (fun x hx h1 h2=>?_)
  have:=hr.mem.1 hx
  rcases List.mem_cons.1 this with g | this
  ·exact absurd g h2
  ·rcases List.mem_cons.1 this with g | this
   ·exact absurd g h1
   ·exact hstep x this
/-- Every edge has all other vertices on its left. -/
def Cvx (P:List Pq):Prop:=∀ a b s,IsRot P (a::b::s)->∀ q ∈ s,0 < crs a b q
theorem cvx_of {P:List Pq} (hs:Smp P) (ht:Tn P):Cvx P:=by
 have hne:P ≠ []:=fun c=>by have:=hs.n3; rw [c] at this; simp at this
 have hc:(⟨1,0⟩:Pq).cross ⟨0,1⟩ ≠ 0:=by simp only [Pq.cross]; grind
 obtain ⟨h,mh,hh⟩:=Lx.max hc P hne
 have hx:=ext_max hc hh
 obtain ⟨x,y,e⟩:=mem_split mh
 have hq:IsRot P (h::(y++x)):=⟨x,h::y,e,rfl⟩
 have hall:=all_ext hs ht hq (fun g r eq=>by rw [<-(List.cons.inj eq).1]; exact hx)
 intro a b s hr
 refine ext_step hs ht hr ?_
 obtain ⟨u,v,e1,e2⟩:=hq.symm.trans hr
 cases v with
 | nil=>
  rw [List.append_nil] at e1
  exact hall 0 [] _ rfl rfl a (b::s) (by rw [e1]; exact e2.symm)
 | cons v0 v=>
  have:a=v0:=(List.cons.inj e2).1
  exact hall _ u (v0::v) rfl e1 a v (by rw [this])
/-- All triples of vertices in order turn left. -/
def Tri (L:List Pq):Prop:=∀ i j k,i < j->j < k->k < L.length->0 < crs (at' L i) (at' L j) (at' L k)
theorem crs_cyc (a b c:Pq):crs b c a=crs a b c:=by simp only [crs,Pq.cross,Pq.sub]; grind
theorem crs_trans {p w x y z:Pq} (h1:0 < crs p x y) (h2:0 < crs p y z) (hx:0<=crs p w x) (hy:0 < crs p w y) (hz:0 < crs p w z):0 < crs p x z:=by
 refine Decidable.byContradiction fun c=>?_
 have k1:=Rat.mul_pos h1 hz
 have k2:=Rat.mul_nonneg (Rat.le_of_lt h2) hx
 have k3:=Rat.mul_nonneg (show 0 <= - crs p x z by grind) (Rat.le_of_lt hy)
 have e:crs p x y*crs p w z+crs p y z*crs p w x+(- crs p x z)*crs p w y=0:=by
  simp only [crs,Pq.cross,Pq.sub]; grind
 grind
theorem fan_pair {p w:Pq}:∀ (l:List Pq),(∀ q ∈ l,q=w\/0 < crs p w q)->(∀ q ∈ l.tail,0 < crs p w q)->(∀ l1 x y l2,l=l1++x::y::l2->0 < crs p x y)->l.Pairwise (fun x y=>0 < crs p x y)
 | [],_,_,_=>.nil
 | [x],_,_,_=>List.pairwise_singleton _ _
 | x::y::l,h1,h2,h3=>by
  have ih:=fan_pair (p:=p) (w:=w) (y::l) (fun q hq=>h1 q (List.mem_cons_of_mem _ hq)) (fun q hq=>h2 q (List.mem_cons_of_mem _ hq)) (fun l1 a b l2 e=>h3 (x::l1) a b l2 (by rw [e]; rfl))
  have hxy:=h3 [] x y l rfl
  have hwy:=h2 y (by simp)
  have hwx:0<=crs p w x:=by
   rcases h1 x (by simp) with g | g
   ·rw [g]; simp only [crs,Pq.cross,Pq.sub]; grind
   ·exact Rat.le_of_lt g
  refine List.Pairwise.cons (fun z hz=>?_) ih
  rcases List.mem_cons.1 hz with rfl | hz
  ·exact hxy
  ·exact crs_trans hxy ((List.pairwise_cons.1 ih).1 z hz) hwx hwy (h2 z (List.mem_cons_of_mem _ hz))
theorem tri_of {P:List Pq} (h:Cvx P):Tri P:=by
 intro i j k hij hjk hk
 have hi:i < P.length:=by omega
 have e:P=P.take i++at' P i::P.drop (i+1):=by
  have e1:P.drop i=at' P i::P.drop (i+1):=by
   rw [List.drop_eq_getElem_cons hi]
   congr 1
   have:=at_lt hi; rw [List.getElem?_eq_getElem hi] at this; exact Option.some.inj this
  rw [<-e1,List.take_append_drop]
 obtain ⟨p,hp⟩:∃ p,p=at' P i:=⟨_,rfl⟩
 obtain ⟨l2,hl2⟩:∃ l,l=P.drop (i+1):=⟨_,rfl⟩
 obtain ⟨l1,hl1⟩:∃ l,l=P.take i:=⟨_,rfl⟩
 rw [<-hp,<-hl2,<-hl1] at e
 have hr:IsRot P (p::(l2++l1)):=⟨l1,p::l2,e,rfl⟩
 have hj:j - i - 1 < l2.length:=by rw [hl2,List.length_drop]; omega
 have hk':k - i - 1 < l2.length:=by rw [hl2,List.length_drop]; omega
 have ga:∀ m,i < m->m < P.length->at' l2 (m - i - 1)=at' P m:=fun m h1 h2=>by
  apply at_of
  rw [hl2,List.getElem?_drop,show i+1+(m - i - 1)=m from by omega,at_lt h2]
 cases hs:l2++l1 with
 | nil=>
  have:l2=[]:=(List.append_eq_nil_iff.1 hs).1
  rw [this] at hj; simp at hj
 | cons w t=>
  rw [hs] at hr
  have hall:=h p w t hr
  have hp2:(w::t).Pairwise (fun x y=>0 < crs p x y):=by
   refine fan_pair (w:=w) (w::t) (fun q hq=>?_) hall (fun a x y b eq=>?_)
   ·rcases List.mem_cons.1 hq with g | g
    ·exact .inl g
    ·exact .inr (hall q g)
   ·have hr2:IsRot P (x::y::(b++p::a)):=hr.trans ⟨p::a,x::y::b,by rw [eq]; rfl,rfl⟩
    have:=h x y _ hr2 p (by simp)
    rw [crs_cyc] at this; exact this
  rw [<-hs,List.pairwise_append] at hp2
  have hp3:=List.pairwise_iff_getElem.1 hp2.1 (j - i - 1) (k - i - 1) hj hk' (by omega)
  have g:∀ m,(hm:m < l2.length)->l2[m]=at' l2 m:=fun m hm=>by
   have:=at_lt hm; rw [List.getElem?_eq_getElem hm] at this; exact Option.some.inj this
  rw [g _ hj,g _ hk',ga j (by omega) (by omega),ga k (by omega) (by omega)] at hp3
  rw [<-hp]; exact hp3
theorem Tri.take {L:List Pq} (h:Tri L) (m:Nat):Tri (L.take m):=by
 intro i j k h1 h2 h3
 have hl:(L.take m).length<=L.length/\(L.take m).length<=m:=by rw [List.length_take]; omega
 have g:∀ a,a < (L.take m).length->at' (L.take m) a=at' L a:=fun a ha=>by
  apply at_of
  rw [List.getElem?_take,if_pos (by omega),at_lt (by omega)]
 rw [g i (by omega),g j (by omega),g k h3]
 exact h i j k h1 h2 (by omega)
/-- The first vertex and those from m on. -/
theorem Tri.gap {p:Pq} {L:List Pq} (h:Tri (p::L)) (m:Nat):Tri (p::L.drop m):=by
 intro i j k h1 h2 h3
 have hd:(L.drop m).length=L.length - m:=List.length_drop
 have g:∀ a,at' (p::L.drop m) (a+1)=at' (p::L) (a+m+1):=fun a=>by
  show at' (L.drop m) a=at' L (a+m)
  unfold at'
  rw [List.getD_eq_getElem?_getD,List.getD_eq_getElem?_getD,List.getElem?_drop,Nat.add_comm]
 have h3:k < L.length - m+1:=by simpa [hd] using h3
 obtain ⟨j',rfl⟩:∃ j',j=j'+1:=⟨j - 1,by omega⟩
 obtain ⟨k',rfl⟩:∃ k',k=k'+1:=⟨k - 1,by omega⟩
 by_cases c:i=0
 ·subst c
  rw [g j',g k']
  exact h 0 (j'+m+1) (k'+m+1) (by omega) (by omega) (by simp; omega)
 ·obtain ⟨i',rfl⟩:∃ i',i=i'+1:=⟨i - 1,by omega⟩
  rw [g i',g j',g k']
  exact h (i'+m+1) (j'+m+1) (k'+m+1) (by omega) (by omega) (by simp; omega)
theorem Tri.gd {L:List Pq} (h:Tri L) (h3:3<=L.length):Gd L:=by
 refine ⟨h3,fun i hi=>?_⟩
 unfold flatAt
 rw [decide_eq_false_iff_not,or_zero]
 obtain ⟨n,hn⟩:∃ n,n=L.length:=⟨_,rfl⟩
 rw [<-hn] at h3 hi ⊢
 by_cases c0:i=0
 ·subst c0
  rw [show 0+n - 1=n - 1 from by omega,Nat.mod_eq_of_lt (show n - 1 < n by omega),Nat.mod_eq_of_lt (show 0+1 < n by omega),<-crs_cyc]
  have:=h 0 1 (n - 1) (by omega) (by omega) (by omega)
  intro c
  rw [show 0+1=1 from rfl] at c; grind
 ·by_cases c1:i=n - 1
  ·subst c1
   rw [show n - 1+n - 1=(n - 2)+n from by omega,Nat.add_mod_right,Nat.mod_eq_of_lt (show n - 2 < n by omega),show n - 1+1=n from by omega,Nat.mod_self]
   have:=h 0 (n - 2) (n - 1) (by omega) (by omega) (by omega)
   intro c
   rw [crs_cyc] at c
   grind
  ·rw [show i+n - 1=(i - 1)+n from by omega,Nat.add_mod_right,Nat.mod_eq_of_lt (show i - 1 < n by omega),Nat.mod_eq_of_lt (show i+1 < n by omega)]
   have:=h (i - 1) i (i+1) (by omega) (by omega) (by omega)
   grind
/-- All vertices other than its ends lie on the left of an edge. -/
theorem Tri.edge {L:List Pq} (h:Tri L) {i k:Nat} (hi:i < L.length) (hk:k < L.length) (h1:k ≠ i) (h2:k ≠ (i+1) % L.length):0 < crs (edgeQ L i).a (edgeQ L i).b (at' L k):=by
 show 0 < crs (at' L i) (at' L ((i+1) % L.length)) (at' L k)
 by_cases c:i+1=L.length
 ·rw [c,Nat.mod_self] at h2 ⊢
  have:=h 0 k i (by omega) (by omega) hi
  rw [crs_cyc]
  have e:=crs_cyc (at' L 0) (at' L k) (at' L i)
  rw [<-e,<-crs_cyc] at this
  grind [crs_cyc]
 ·rw [Nat.mod_eq_of_lt (by omega)] at h2 ⊢
  by_cases g:k < i
  ·have:=h k i (i+1) g (by omega) (by omega)
   rw [crs_cyc]; exact this
  ·exact h i (i+1) k (by omega) (by omega) hk
theorem crs_on_a (a b:Pq):crs a b a=0:=by simp only [crs,Pq.cross,Pq.sub]; grind
theorem crs_on_b (a b:Pq):crs a b b=0:=by simp only [crs,Pq.cross,Pq.sub]; grind
theorem on_zero {e:Sq} {x:Pq} (h:OnS e x):crs e.a e.b x=0:=by
 obtain ⟨t,_,_,rfl⟩:=h
 rw [crs_at,crs_on_a,crs_on_b]; grind
theorem Tri.smp {L:List Pq} (h:Tri L) (h3:3<=L.length):Smp L:=by
 have hg:=h.gd h3
 refine ⟨h3,fun e he=>?_,?_⟩
 ·unfold edgesQ at he
  obtain ⟨i,hi,rfl⟩:=List.mem_map.1 he
  exact (crs_ne (hg.crs (by simpa using hi))).2.1
 ·rw [List.pairwise_iff_getElem]
  intro i k hi hk hik
  rw [edges_len] at hi hk
  rw [edges_get hi,edges_get hk]
  intro x hx hx2
  have h0:=on_zero hx
  obtain ⟨t,t0,t1,ht⟩:=hx2
  have h4:=crs_at (edgeQ L i).a (edgeQ L i).b (edgeQ L k).a (edgeQ L k).b t
  rw [<-ht,h0] at h4
  have ea:¬ k=(i+1) % L.length->0 < crs (edgeQ L i).a (edgeQ L i).b (edgeQ L k).a:=fun c=>h.edge hi hk (by omega) c
  have eb:¬ (k+1) % L.length=i->0 < crs (edgeQ L i).a (edgeQ L i).b (edgeQ L k).b:=fun c=>h.edge hi (Nat.mod_lt _ (by omega)) c (fun g=>by
   by_cases c1:k+1=L.length
   ·rw [c1,Nat.mod_self,Nat.mod_eq_of_lt (by omega)] at g; omega
   ·rw [Nat.mod_eq_of_lt (by omega),Nat.mod_eq_of_lt (by omega)] at g; omega)
  by_cases c1:k=(i+1) % L.length
  ·by_cases c2:(k+1) % L.length=i
   ·exfalso
    rw [Nat.mod_eq_of_lt (by omega)] at c1
    subst c1
    by_cases c3:i+1+1=L.length
    ·rw [c3,Nat.mod_self] at c2; omega
    ·rw [Nat.mod_eq_of_lt (by omega)] at c2; omega
   ·have hb:=eb c2
    have ha:crs (edgeQ L i).a (edgeQ L i).b (edgeQ L k).a=0:=by
     have:(edgeQ L k).a=(edgeQ L i).b:=by show at' L k=at' L ((i+1) % L.length); rw [<-c1]
     rw [this]; exact crs_on_b _ _
    rw [ha] at h4
    have:crs (edgeQ L i).a (edgeQ L i).b (edgeQ L k).b*t=0:=by grind
    rcases Rat.mul_eq_zero.1 this with g | g
    ·grind
    ·left
     refine ⟨by show at' L ((i+1) % L.length)=at' L k; rw [<-c1],?_⟩
     rw [ht,g,at_w0]
     show at' L k=at' L ((i+1) % L.length); rw [<-c1]
  ·have ha:=ea c1
   by_cases c2:(k+1) % L.length=i
   ·have hb:crs (edgeQ L i).a (edgeQ L i).b (edgeQ L k).b=0:=by
     have:(edgeQ L k).b=(edgeQ L i).a:=by show at' L ((k+1) % L.length)=at' L i; rw [c2]
     rw [this]; exact crs_on_a _ _
    rw [hb] at h4
    have:crs (edgeQ L i).a (edgeQ L i).b (edgeQ L k).a*(1 - t)=0:=by grind
    rcases Rat.mul_eq_zero.1 this with g | g
    ·grind
    ·right
     refine ⟨by show at' L ((k+1) % L.length)=at' L i; rw [c2],?_⟩
     rw [ht,show t=1 from by grind,at_w1]
   ·exfalso
    have hb:=eb c2
    have g1:=Rat.mul_nonneg (Rat.le_of_lt ha) (show 0<=1 - t by grind)
    have g2:=Rat.mul_nonneg (Rat.le_of_lt hb) t0
    have g3:crs (edgeQ L i).a (edgeQ L i).b (edgeQ L k).a*(1 - t)=0:=by grind
    have g4:crs (edgeQ L i).a (edgeQ L i).b (edgeQ L k).b*t=0:=by grind
    rcases Rat.mul_eq_zero.1 g3 with g | g
    ·grind
    ·rcases Rat.mul_eq_zero.1 g4 with g' | g'<;>grind
end Go.Proofs.YtkipmmiiackdaaaGreat.Sx
