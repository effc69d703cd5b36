/- Part 24 of what the statement needs: an executor of Go texts, arithmetic, and contracts of the functions that are called. -/
import Derived.Test.YtkipmmiiackdaaaGreatCi23
set_option linter.unusedSimpArgs false
set_option linter.unusedVariables false
namespace Go.Proofs.YtkipmmiiackdaaaGreat.Sx
open Env (std)
def crs (a b c:Pq):Rat:=(b.sub a).cross (c.sub a)
theorem onS_iff {s:Sq} {p:Pq}:OnS s p ↔ ∃ t:Rat,0<=t/\t<=1/\p.x=s.a.x+(s.b.x - s.a.x)*t/\p.y=s.a.y+(s.b.y - s.a.y)*t:=by
 constructor
 ·rintro ⟨t,h0,h1,rfl⟩; exact ⟨t,h0,h1,rfl,rfl⟩
 ·rintro ⟨t,h0,h1,hx,hy⟩; exact ⟨t,h0,h1,Pq.ext' hx hy⟩
/-- Two edges of a simple polygon: a common point ends one and begins the other. -/
def RelE (e f:Sq):Prop:=∀ x,OnS e x->OnS f x->(e.b=f.a/\x=e.b)\/(f.b=e.a/\x=f.b)
theorem RelE.symm {e f:Sq} (h:RelE e f):RelE f e:=fun x h1 h2=>(h x h2 h1).symm
structure Smp (l:List Pq):Prop where
 n3:3<=l.length
 nd:∀ e ∈ edgesQ l,e.a ≠ e.b
 pw:(edgesQ l).Pairwise RelE
theorem Smp.rot {l1 l2:List Pq} (h:Smp (l1++l2)):Smp (l2++l1):=by
 have hp:=edges_rot l1 l2
 refine ⟨by have:=h.n3; simp at this ⊢; omega,fun e he=>h.nd e (hp.mem_iff.1 he),?_⟩
 exact (List.Perm.pairwise_iff (fun {x y}=>RelE.symm) hp).2 h.pw
/-- Coordinates of a point with respect to a corner v with the ends u and w. -/
def kA (v u w x:Pq):Rat:=crs v x w / crs v u w
def kB (v u w x:Pq):Rat:=crs v u x / crs v u w
theorem kA_at (v u w p q:Pq) (t:Rat):kA v u w (p.at q t)=kA v u w p+(kA v u w q - kA v u w p)*t:=by
 unfold kA
 rw [Rat.div_def,Rat.div_def,Rat.div_def]
 generalize (crs v u w)⁻¹=d
 simp only [crs,Pq.cross,Pq.sub,Pq.at,Pq.add,Pq.scale]; grind
theorem kB_at (v u w p q:Pq) (t:Rat):kB v u w (p.at q t)=kB v u w p+(kB v u w q - kB v u w p)*t:=by
 unfold kB
 rw [Rat.div_def,Rat.div_def,Rat.div_def]
 generalize (crs v u w)⁻¹=d
 simp only [crs,Pq.cross,Pq.sub,Pq.at,Pq.add,Pq.scale]; grind
theorem k_v {v u w:Pq}:kA v u w v=0/\kB v u w v=0:=by
 unfold kA kB
 constructor
 ·have:crs v v w=0:=by simp only [crs,Pq.cross,Pq.sub]; grind
  rw [this,Rat.div_def,Rat.zero_mul]
 ·have:crs v u v=0:=by simp only [crs,Pq.cross,Pq.sub]; grind
  rw [this,Rat.div_def,Rat.zero_mul]
theorem k_u {v u w:Pq} (h:crs v u w ≠ 0):kA v u w u=1/\kB v u w u=0:=by
 unfold kA kB
 constructor
 ·rw [Rat.div_def,Rat.mul_inv_cancel _ h]
 ·have:crs v u u=0:=by simp only [crs,Pq.cross,Pq.sub]; grind
  rw [this,Rat.div_def,Rat.zero_mul]
theorem k_w {v u w:Pq} (h:crs v u w ≠ 0):kA v u w w=0/\kB v u w w=1:=by
 unfold kA kB
 constructor
 ·have:crs v w w=0:=by simp only [crs,Pq.cross,Pq.sub]; grind
  rw [this,Rat.div_def,Rat.zero_mul]
 ·rw [Rat.div_def,Rat.mul_inv_cancel _ h]
/-- A point by its coordinates. -/
theorem k_pt {v u w:Pq} (h:crs v u w ≠ 0) (x:Pq):x.x=v.x+(u.x - v.x)*kA v u w x+(w.x - v.x)*kB v u w x/\x.y=v.y+(u.y - v.y)*kA v u w x+(w.y - v.y)*kB v u w x:=by
 obtain ⟨d,hd⟩:∃ d,d=(crs v u w)⁻¹:=⟨_,rfl⟩
 have hm:crs v u w*d=1:=by rw [hd]; exact Rat.mul_inv_cancel _ h
 unfold kA kB
 rw [Rat.div_def,Rat.div_def,<-hd]
 simp only [crs,Pq.cross,Pq.sub] at hm ⊢
 constructor<;>grind
/-- Either q lies strictly within the corner, or one meets a side on the way. -/
theorem exit_num {a b a' b':Rat} (ha:0 < a) (hb:0 < b) (hp:a+b<=1) (hq2:a'+b' < 1) :
  (0 < a'/\0 < b')\/∃ t:Rat,0 < t/\t<=1/\((b+(b' - b)*t=0/\0<=a+(a' - a)*t/\a+(a' - a)*t < 1)\/(a+(a' - a)*t=0/\0<=b+(b' - b)*t/\b+(b' - b)*t < 1)):=by
 have cut:∀ {c c':Rat},0 < c->c'<=0->∃ t:Rat,0 < t/\t<=1/\t*(c - c')=c:=by
  intro c c' h1 h2
  have h3:0 < c - c':=by grind
  refine ⟨c / (c - c'),?_,?_,?_⟩
  ·rw [Rat.lt_div_iff h3]; grind
  ·have:=(div_in (n:=c) h3).2.2 (by grind); exact this
  ·rw [Rat.div_mul_cancel (by grind)]
 have one:∀ {a b a' b':Rat},0 < a->0 < b->a+b<=1->a'+b' < 1->∀ t:Rat,0 < t->t<=1->t*(b - b')=b->0<=a+(a' - a)*t->b+(b' - b)*t=0/\0<=a+(a' - a)*t/\a+(a' - a)*t < 1:=by
  intro a b a' b' h1 h2 h3 h4 t h5 h6 h7 h8
  have e:b+(b' - b)*t=0:=by grind
  refine ⟨e,h8,?_⟩
  have q1:0<=(1 - (a+b))*(1 - t):=Rat.mul_nonneg (by grind) (by grind)
  have q2:0 < (1 - (a'+b'))*t:=Rat.mul_pos (by grind) h5
  grind
 by_cases c1:0 < a'
 ·by_cases c2:0 < b'
  ·exact .inl ⟨c1,c2⟩
  ·right
   obtain ⟨t,h0,h1,ht⟩:=cut hb (show b'<=0 by grind)
   refine ⟨t,h0,h1,.inl (one ha hb hp hq2 t h0 h1 ht ?_)⟩
   have q1:0<=a*(1 - t):=Rat.mul_nonneg (by grind) (by grind)
   have q2:0<=a'*t:=Rat.mul_nonneg (by grind) (by grind)
   grind
 ·right
  obtain ⟨s,s0,s1,hs⟩:=cut ha (show a'<=0 by grind)
  by_cases c2:0 < b'
  ·refine ⟨s,s0,s1,.inr (one hb ha (by grind) (by grind) s s0 s1 hs ?_)⟩
   have q1:0<=b*(1 - s):=Rat.mul_nonneg (by grind) (by grind)
   have q2:0<=b'*s:=Rat.mul_nonneg (by grind) (by grind)
   grind
  ·obtain ⟨t,h0,h1,ht⟩:=cut hb (show b'<=0 by grind)
   by_cases c3:t<=s
   ·refine ⟨t,h0,h1,.inl (one ha hb hp hq2 t h0 h1 ht ?_)⟩
    have q1:0<=(s - t)*(a - a'):=Rat.mul_nonneg (by grind) (by grind)
    grind
   ·refine ⟨s,s0,s1,.inr (one hb ha (by grind) (by grind) s s0 s1 hs ?_)⟩
    have q1:0<=(t - s)*(b - b'):=Rat.mul_nonneg (by grind) (by grind)
    grind
/-- From a point of a segment towards one of its ends. -/
theorem on_to {e:Sq} {x q:Pq} {t:Rat} (hx:OnS e x) (hq:q=e.a\/q=e.b) (h0:0<=t) (h1:t<=1):OnS e (x.at q t):=by
 obtain ⟨s,s0,s1,rfl⟩:=hx
 rcases hq with rfl | rfl
 ·refine ⟨s*(1 - t),Rat.mul_nonneg s0 (by grind),?_,Pq.ext' ?_ ?_⟩
  ·have:=Rat.mul_nonneg s0 h0; grind
  ·simp only [Pq.at,Pq.add,Pq.scale,Pq.sub]; grind
  ·simp only [Pq.at,Pq.add,Pq.scale,Pq.sub]; grind
 ·refine ⟨s+(1 - s)*t,?_,?_,Pq.ext' ?_ ?_⟩
  ·have:=Rat.mul_nonneg (show 0<=1 - s by grind) h0; grind
  ·have:=Rat.mul_nonneg (show 0<=1 - s by grind) (show 0<=1 - t by grind); grind
  ·simp only [Pq.at,Pq.add,Pq.scale,Pq.sub]; grind
  ·simp only [Pq.at,Pq.add,Pq.scale,Pq.sub]; grind
theorem k_eq {v u w:Pq} (h:crs v u w ≠ 0) {x y:Pq} (ha:kA v u w x=kA v u w y) (hb:kB v u w x=kB v u w y):x=y:=by
 have h1:=k_pt h x
 have h2:=k_pt h y
 exact Pq.ext' (by rw [h1.1,h2.1,ha,hb]) (by rw [h1.2,h2.2,ha,hb])
theorem on_uv {v u w:Pq} (h:crs v u w ≠ 0) {y:Pq} (hb:kB v u w y=0) (h0:0<=kA v u w y) (h1:kA v u w y<=1):OnS ⟨u,v⟩ y:=by
 have hk:=k_pt h y
 rw [hb] at hk
 refine ⟨1 - kA v u w y,by grind,by grind,Pq.ext' ?_ ?_⟩
 ·rw [hk.1]; simp only [Pq.at,Pq.add,Pq.scale,Pq.sub]; grind
 ·rw [hk.2]; simp only [Pq.at,Pq.add,Pq.scale,Pq.sub]; grind
theorem on_vw {v u w:Pq} (h:crs v u w ≠ 0) {y:Pq} (ha:kA v u w y=0) (h0:0<=kB v u w y) (h1:kB v u w y<=1):OnS ⟨v,w⟩ y:=by
 have hk:=k_pt h y
 rw [ha] at hk
 refine ⟨kB v u w y,h0,h1,Pq.ext' ?_ ?_⟩
 ·rw [hk.1]; simp only [Pq.at,Pq.add,Pq.scale,Pq.sub]; grind
 ·rw [hk.2]; simp only [Pq.at,Pq.add,Pq.scale,Pq.sub]; grind
/-- An edge that does not begin or end in the corner does not leave it by its sides. -/
theorem exit_pt {v u w:Pq} (h:crs v u w ≠ 0) {e:Sq} (h1:RelE e ⟨u,v⟩) (h2:RelE e ⟨v,w⟩) (ha:e.a ≠ v) (hb:e.b ≠ v) {x:Pq} (hx:OnS e x) (xa:0 < kA v u w x) (xb:0 < kB v u w x) (xs:kA v u w x+kB v u w x<=1) {q:Pq} (hq:q=e.a\/q=e.b) (qs:kA v u w q+kB v u w q < 1):0 < kA v u w q/\0 < kB v u w q:=by
 rcases exit_num xa xb xs qs with c | ⟨t,t0,t1,c⟩
 ·exact c
 ·have hy:=on_to hx hq (Rat.le_of_lt t0) t1
  have ea:=kA_at v u w x q t
  have eb:=kB_at v u w x q t
  rw [<-ea,<-eb] at c
  generalize x.at q t=y at *
  exfalso
  rcases c with ⟨c1,c2,c3⟩ | ⟨c1,c2,c3⟩
  ·rcases h1 y hy (on_uv h c1 c2 (Rat.le_of_lt c3)) with ⟨g1,g2⟩ | ⟨g1,g2⟩
   ·have e:y=u:=g2.trans g1
    rw [e,(k_u h).1] at c3
    exact absurd c3 (by decide)
   ·exact ha g1.symm
  ·rcases h2 y hy (on_vw h c1 c2 (Rat.le_of_lt c3)) with ⟨g1,g2⟩ | ⟨g1,g2⟩
   ·exact hb g1
   ·have e:y=w:=g2
    rw [e,(k_w h).2] at c3
    exact absurd c3 (by decide)
/-- One end of a segment is not higher than a point of it. -/
theorem low_end {f:Pq->Rat} (hf:∀ p q t,f (p.at q t)=f p+(f q - f p)*t) {e:Sq} {x:Pq} (hx:OnS e x):f e.a<=f x\/f e.b<=f x:=by
 obtain ⟨t,h0,h1,rfl⟩:=hx
 rw [hf]
 by_cases c:f e.a<=f e.b
 ·left
  have:=Rat.mul_nonneg (show 0<=f e.b - f e.a by grind) h0; grind
 ·right
  have:=Rat.mul_nonneg (show 0<=f e.a - f e.b by grind) (show 0<=1 - t by grind); grind
/-- The diagonal from the corner to a vertex nearest to it meets no other edge. -/
theorem diag_off {v u w z:Pq} (h:crs v u w ≠ 0) (za:0 < kA v u w z) (zb:0 < kB v u w z) (zs:kA v u w z+kB v u w z<=1) {e:Sq} (h1:RelE e ⟨u,v⟩) (h2:RelE e ⟨v,w⟩) (ha:e.a ≠ v) (hb:e.b ≠ v)
  (hm:∀ q,q=e.a\/q=e.b->0 < kA v u w q->0 < kB v u w q->kA v u w q+kB v u w q < 1->kA v u w z+kB v u w z<=kA v u w q+kB v u w q) {x:Pq} (hx:OnS e x) (hd:OnS ⟨z,v⟩ x):x=z:=by
 have huv:u ≠ v:=by
  intro c; apply h; rw [c]; simp only [crs,Pq.cross,Pq.sub]; grind
 obtain ⟨t,t0,t1,et⟩:=hd
 have et:x=z.at v t:=et
 apply Classical.byContradiction
 intro hne
 have tp:0 < t:=by
  by_cases c:t=0
  ·exfalso; apply hne
   rw [et,c]
   exact Pq.ext' (by simp only [Pq.at,Pq.add,Pq.scale,Pq.sub]; grind) (by simp only [Pq.at,Pq.add,Pq.scale,Pq.sub]; grind)
  ·grind
 have ea:=kA_at v u w z v t
 have eb:=kB_at v u w z v t
 rw [<-et,k_v.1] at ea
 rw [<-et,k_v.2] at eb
 by_cases ct:t=1
 ·have e:x=v:=by
   rw [et,ct]
   exact Pq.ext' (by simp only [Pq.at,Pq.add,Pq.scale,Pq.sub]; grind) (by simp only [Pq.at,Pq.add,Pq.scale,Pq.sub]; grind)
  rcases h1 v (e ▸ hx) (at_on (s:=⟨u,v⟩)).2 with ⟨g1,g2⟩ | ⟨g1,g2⟩
  ·exact hb g2.symm
  ·exact ha g1.symm
 ·have tl:0 < 1 - t:=by grind
  have xa:0 < kA v u w x:=by have:=Rat.mul_pos za tl; grind
  have xb:0 < kB v u w x:=by have:=Rat.mul_pos zb tl; grind
  have xs:kA v u w x+kB v u w x < kA v u w z+kB v u w z:=by
   have:=Rat.mul_pos (show 0 < kA v u w z+kB v u w z by grind) tp; grind
  have key:∀ q,q=e.a\/q=e.b->kA v u w q+kB v u w q<=kA v u w x+kB v u w x->False:=by
   intro q hq hle
   have hin:=exit_pt h h1 h2 ha hb hx xa xb (by grind) hq (by grind)
   have:=hm q hq hin.1 hin.2 (by grind)
   grind
  rcases low_end (f:=fun p=>kA v u w p+kB v u w p) (fun p q t=>by simp only [kA_at,kB_at]; grind) hx with c | c
  ·exact key _ (.inl rfl) c
  ·exact key _ (.inr rfl) c
theorem f_on {f:Pq->Rat} (hf:∀ p q t,f (p.at q t)=f p+(f q - f p)*t) {e:Sq} {t:Rat} {x:Pq} (ht:x=e.a.at e.b t):f x=f e.a*(1 - t)+f e.b*t:=by
 rw [ht,hf]; grind
/-- An ear is cut off: the new edge meets an old one only where they follow each other. -/
theorem ear_rel {v u w:Pq} (h:crs v u w ≠ 0) {e:Sq} (h1:RelE e ⟨u,v⟩) (h2:RelE e ⟨v,w⟩) (ha:e.a ≠ v) (hb:e.b ≠ v) (hne:e.a ≠ e.b) (hwu:¬ (e.a=w/\e.b=u))
  (hout:∀ q,q=e.a\/q=e.b->q ≠ u->q ≠ w->¬ (0<=kA v u w q/\0<=kB v u w q/\kA v u w q+kB v u w q<=1)):RelE e ⟨u,w⟩:=by
 have huw:u ≠ w:=by
  intro c; apply h; rw [c]; simp only [crs,Pq.cross,Pq.sub]; grind
 have ku:=k_u h
 have kw:=k_w h
 have fA:∀ p q t,kA v u w (p.at q t)=kA v u w p+(kA v u w q - kA v u w p)*t:=kA_at v u w
 have fB:∀ p q t,kB v u w (p.at q t)=kB v u w p+(kB v u w q - kB v u w p)*t:=kB_at v u w
 intro x hx hd
 have atu:OnS e u->e.b=u:=fun hu=>by
  rcases h1 u hu (at_on (s:=⟨u,v⟩)).1 with ⟨g1,g2⟩ | ⟨g1,g2⟩
  ·exact g1
  ·exact absurd g1.symm ha
 have atw:OnS e w->w=e.a:=fun hw=>by
  rcases h2 w hw (at_on (s:=⟨v,w⟩)).2 with ⟨g1,g2⟩ | ⟨g1,g2⟩
  ·exact absurd g1 hb
  ·exact g1
 by_cases xu:x=u
 ·left
  have:=atu (xu ▸ hx)
  exact ⟨this,by rw [xu,this]⟩
 by_cases xw:x=w
 ·right
  exact ⟨atw (xw ▸ hx),xw⟩
 exfalso
 obtain ⟨t,t0,t1,et⟩:=hd
 have et:x=u.at w t:=et
 have xA:kA v u w x=1 - t:=by rw [et,fA,ku.1,kw.1]; grind
 have xB:kB v u w x=t:=by rw [et,fB,ku.2,kw.2]; grind
 have tA:0 < 1 - t:=by
  by_cases c:t=1
  ·exfalso; apply xw
   exact k_eq h (by rw [xA,kw.1,c]; grind) (by rw [xB,kw.2,c])
  ·grind
 have tB:0 < t:=by
  by_cases c:t=0
  ·exfalso; apply xu
   exact k_eq h (by rw [xA,ku.1,c]; grind) (by rw [xB,ku.2,c])
  ·grind
 have low:∀ q,q=e.a\/q=e.b->¬ kA v u w q+kB v u w q < 1:=by
  intro q hq hlt
  have hin:=exit_pt h h1 h2 ha hb hx (by rw [xA]; exact tA) (by rw [xB]; exact tB) (by rw [xA,xB]; grind) hq hlt
  exact hout q hq (fun c=>by rw [c,ku.2] at hin; exact absurd hin.2 (by decide)) (fun c=>by rw [c,kw.1] at hin; exact absurd hin.1 (by decide)) ⟨Rat.le_of_lt hin.1,Rat.le_of_lt hin.2,Rat.le_of_lt hlt⟩
 have notx:∀ q,q=e.a\/q=e.b->q ≠ x:=by
  intro q hq c
  refine hout q hq (fun d=>xu (c ▸ d)) (fun d=>xw (c ▸ d)) ?_
  rw [c,xA,xB]; exact ⟨Rat.le_of_lt tA,Rat.le_of_lt tB,by grind⟩
 obtain ⟨s,s0,s1,es⟩:=hx
 have hx:OnS e x:=⟨s,s0,s1,es⟩
 have sp:0 < s:=by
  by_cases c:s=0
  ·exfalso; apply notx _ (.inl rfl)
   rw [es,c]; exact Pq.ext' (by simp only [Pq.at,Pq.add,Pq.scale,Pq.sub]; grind) (by simp only [Pq.at,Pq.add,Pq.scale,Pq.sub]; grind)
  ·grind
 have sq:0 < 1 - s:=by
  by_cases c:s=1
  ·exfalso; apply notx _ (.inr rfl)
   rw [es,c]; exact Pq.ext' (by simp only [Pq.at,Pq.add,Pq.scale,Pq.sub]; grind) (by simp only [Pq.at,Pq.add,Pq.scale,Pq.sub]; grind)
  ·grind
 have eA:=f_on fA es
 have eB:=f_on fB es
 rw [xA] at eA
 rw [xB] at eB
 have l1:=low _ (.inl rfl)
 have l2:=low _ (.inr rfl)
 have p1:=Rat.mul_nonneg (show 0<=kA v u w e.a+kB v u w e.a - 1 by grind) (Rat.le_of_lt sq)
 have p2:=Rat.mul_nonneg (show 0<=kA v u w e.b+kB v u w e.b - 1 by grind) (Rat.le_of_lt sp)
 have sa:kA v u w e.a+kB v u w e.a=1:=by
  apply Classical.byContradiction
  intro c
  have:=Rat.mul_pos (show 0 < kA v u w e.a+kB v u w e.a - 1 by grind) sq
  grind
 have sb:kA v u w e.b+kB v u w e.b=1:=by
  apply Classical.byContradiction
  intro c
  have:=Rat.mul_pos (show 0 < kA v u w e.b+kB v u w e.b - 1 by grind) sp
  grind
 have cut:∀ {c c':Rat},0 < c->c' < 0->∃ r:Rat,0<=r/\r<=1/\c+(c' - c)*r=0:=by
  intro c c' h1 h2
  have h3:0 < c - c':=by grind
  refine ⟨c / (c - c'),?_,?_,?_⟩
  ·exact (div_in (n:=c) h3).1.2 (by grind)
  ·exact (div_in (n:=c) h3).2.2 (by grind)
  ·have:c / (c - c')*(c - c')=c:=Rat.div_mul_cancel (by grind)
   grind
 have sumq:∀ q,q=e.a\/q=e.b->kA v u w q+kB v u w q=1:=by
  intro q hq
  rcases hq with rfl | rfl
  ·exact sa
  ·exact sb
 have noB:∀ q,q=e.a\/q=e.b->¬ kB v u w q < 0:=by
  intro q hq hlt
  obtain ⟨r,r0,r1,er⟩:=cut (show 0 < kB v u w x by rw [xB]; exact tB) hlt
  have hy:=on_to hx hq r0 r1
  have yB:=fB x q r
  rw [er] at yB
  have yA:=fA x q r
  have hs:=sumq q hq
  have yu:x.at q r=u:=k_eq h (by rw [yA,ku.1]; grind) (by rw [yB,ku.2])
  have hbu:=atu (yu ▸ hy)
  rw [hbu,ku.2] at eB
  rcases hq with rfl | rfl
  ·have:=Rat.mul_pos (show 0 < - kB v u w e.a by grind) sq
   grind
  ·rw [hbu,ku.2] at hlt; exact absurd hlt (by decide)
 have noA:∀ q,q=e.a\/q=e.b->¬ kA v u w q < 0:=by
  intro q hq hlt
  obtain ⟨r,r0,r1,er⟩:=cut (show 0 < kA v u w x by rw [xA]; exact tA) hlt
  have hy:=on_to hx hq r0 r1
  have yA:=fA x q r
  rw [er] at yA
  have yB:=fB x q r
  have hs:=sumq q hq
  have yw:x.at q r=w:=k_eq h (by rw [yA,kw.1]) (by rw [yB,kw.2]; grind)
  have haw:=atw (yw ▸ hy)
  rw [<-haw,kw.1] at eA
  rcases hq with rfl | rfl
  ·rw [<-haw,kw.1] at hlt; exact absurd hlt (by decide)
  ·have:=Rat.mul_pos (show 0 < - kA v u w e.b by grind) sp
   grind
 have ends:∀ q,q=e.a\/q=e.b->q=u\/q=w:=by
  intro q hq
  by_cases c1:q=u
  ·exact .inl c1
  ·by_cases c2:q=w
   ·exact .inr c2
   ·exfalso
    have h3:=noA q hq
    have h4:=noB q hq
    have h5:=sumq q hq
    exact hout q hq c1 c2 ⟨by grind,by grind,by grind⟩
 rcases ends _ (.inl rfl) with c1 | c1
 ·rcases ends _ (.inr rfl) with c2 | c2
  ·exact hne (c1.trans c2.symm)
  ·have:=atw (c2 ▸ (at_on (s:=e)).2)
   exact huw (c1.symm.trans this.symm)
 ·rcases ends _ (.inr rfl) with c2 | c2
  ·exact hwu ⟨c1,c2⟩
  ·exact hne (c1.trans c2.symm)
theorem RelE.rev {e f:Sq} (h:RelE e f):RelE e.rev f.rev:=by
 have on_rev:∀ {s:Sq} {x:Pq},OnS s.rev x->OnS s x:=by
  rintro s x ⟨t,h0,h1,rfl⟩
  exact ⟨1 - t,by grind,by grind,Pq.ext' (by simp only [Sq.rev,Pq.at,Pq.add,Pq.scale,Pq.sub]; grind) (by simp only [Sq.rev,Pq.at,Pq.add,Pq.scale,Pq.sub]; grind)⟩
 intro x h1 h2
 rcases h x (on_rev h1) (on_rev h2) with ⟨g1,g2⟩ | ⟨g1,g2⟩
 ·right; exact ⟨g1.symm,by rw [g2,g1]; rfl⟩
 ·left; exact ⟨g1.symm,by rw [g2,g1]; rfl⟩
theorem on_rev {s:Sq} {x:Pq}:OnS s.rev x ↔ OnS s x:=by
 have key:∀ {s:Sq} {x:Pq},OnS s.rev x->OnS s x:=by
  rintro s x ⟨t,h0,h1,rfl⟩
  exact ⟨1 - t,by grind,by grind,Pq.ext' (by simp only [Sq.rev,Pq.at,Pq.add,Pq.scale,Pq.sub]; grind) (by simp only [Sq.rev,Pq.at,Pq.add,Pq.scale,Pq.sub]; grind)⟩
 exact ⟨key,fun h=>key (s:=s.rev) h⟩
/-- A vector on the positive side of the order that d and e give. -/
def Lx (d e x:Pq):Prop:=0 < d.dot x\/(d.dot x=0/\0 < e.dot x)
theorem Lx.add {d e x y:Pq} (hx:Lx d e x) (hy:Lx d e y):Lx d e (x.add y):=by
 unfold Lx at *
 have h1:d.dot (x.add y)=d.dot x+d.dot y:=by simp only [Pq.dot,Pq.add]; grind
 have h2:e.dot (x.add y)=e.dot x+e.dot y:=by simp only [Pq.dot,Pq.add]; grind
 rw [h1,h2]; grind
theorem Lx.scale {d e x:Pq} (hx:Lx d e x) {t:Rat} (ht:0 < t):Lx d e (x.scale t):=by
 unfold Lx at *
 have h1:d.dot (x.scale t)=d.dot x*t:=by simp only [Pq.dot,Pq.scale]; grind
 have h2:e.dot (x.scale t)=e.dot x*t:=by simp only [Pq.dot,Pq.scale]; grind
 rw [h1,h2]
 rcases hx with h | ⟨h,h'⟩
 ·exact .inl (Rat.mul_pos h ht)
 ·exact .inr ⟨by rw [h,Rat.zero_mul],Rat.mul_pos h' ht⟩
theorem Lx.ne {d e x:Pq} (hx:Lx d e x):x ≠ Pq.zero:=by
 intro c
 subst c
 unfold Lx at hx
 have h1:d.dot Pq.zero=0:=by simp only [Pq.dot,Pq.zero]; grind
 have h2:e.dot Pq.zero=0:=by simp only [Pq.dot,Pq.zero]; grind
 rw [h1,h2] at hx; grind
theorem Lx.tri {d e:Pq} (hc:d.cross e ≠ 0) (x:Pq):Lx d e x\/x=Pq.zero\/Lx d e (Pq.zero.sub x):=by
 unfold Lx
 have h1:d.dot (Pq.zero.sub x) = - d.dot x:=by simp only [Pq.dot,Pq.sub,Pq.zero]; grind
 have h2:e.dot (Pq.zero.sub x) = - e.dot x:=by simp only [Pq.dot,Pq.sub,Pq.zero]; grind
 rw [h1,h2]
 by_cases c1:0 < d.dot x
 ·exact .inl (.inl c1)
 ·by_cases c2:d.dot x < 0
  ·exact .inr (.inr (.inl (by grind)))
  ·have c3:d.dot x=0:=by grind
   by_cases c4:0 < e.dot x
   ·exact .inl (.inr ⟨c3,c4⟩)
   ·by_cases c5:e.dot x < 0
    ·exact .inr (.inr (.inr ⟨by grind,by grind⟩))
    ·right; left
     have c6:e.dot x=0:=by grind
     simp only [Pq.dot,Pq.cross] at c3 c6 hc
     have q1:(d.x*e.y - d.y*e.x)*x.x=0:=by grind
     have q2:(d.x*e.y - d.y*e.x)*x.y=0:=by grind
     refine Pq.ext' ?_ ?_
     ·rcases Rat.mul_eq_zero.1 q1 with h | h
      ·exact absurd h hc
      ·exact h
     ·rcases Rat.mul_eq_zero.1 q2 with h | h
      ·exact absurd h hc
      ·exact h
/-- The greatest point of a list in such an order. -/
theorem Lx.max {d e:Pq} (hc:d.cross e ≠ 0):∀ (l:List Pq),l ≠ []->∃ h ∈ l,∀ q ∈ l,q ≠ h->Lx d e (h.sub q)
 | [],h=>absurd rfl h
 | [p],_=>⟨p,by simp,fun q hq hne=>absurd (List.mem_singleton.1 hq) hne⟩
 | p::p'::l,_=>by
  obtain ⟨h,hm,hh⟩:=Lx.max hc (p'::l) (by simp)
  rcases Lx.tri hc (h.sub p) with c | c | c
  ·refine ⟨h,List.mem_cons_of_mem _ hm,fun q hq hne=>?_⟩
   rcases List.mem_cons.1 hq with rfl | hq
   ·exact c
   ·exact hh q hq hne
  ·have e:h=p:=Pq.ext' (by have:=congrArg Pq.x c; simp only [Pq.sub,Pq.zero] at this; grind) (by have:=congrArg Pq.y c; simp only [Pq.sub,Pq.zero] at this; grind)
   refine ⟨h,List.mem_cons_of_mem _ hm,fun q hq hne=>?_⟩
   rcases List.mem_cons.1 hq with rfl | hq
   ·exact absurd e.symm hne
   ·exact hh q hq hne
  ·have c:Lx d e (p.sub h):=by
    have e2:Pq.zero.sub (h.sub p)=p.sub h:=Pq.ext' (by simp only [Pq.sub,Pq.zero]; grind) (by simp only [Pq.sub,Pq.zero]; grind)
    rw [e2] at c; exact c
   refine ⟨p,by simp,fun q hq hne=>?_⟩
   rcases List.mem_cons.1 hq with rfl | hq
   ·exact absurd rfl hne
   ·by_cases e:q=h
    ·rw [e]; exact c
    ·have:=c.add (hh q hq e)
     have e2:(p.sub h).add (h.sub q)=p.sub q:=Pq.ext' (by simp only [Pq.sub,Pq.add]; grind) (by simp only [Pq.sub,Pq.add]; grind)
     rw [e2] at this; exact this
/-- A vertex that is strictly extreme among the points of a list. -/
def Xtr (v:Pq) (l:List Pq):Prop:=∃ d e:Pq,d.cross e ≠ 0/\∀ q ∈ l,q ≠ v->Lx d e (q.sub v)
theorem Xtr.sub {v:Pq} {l l':List Pq} (h:Xtr v l) (hs:∀ q ∈ l',q ∈ l):Xtr v l':=by
 obtain ⟨d,e,hc,hq⟩:=h
 exact ⟨d,e,hc,fun q h1 h2=>hq q (hs q h1) h2⟩
theorem ext_max {d e:Pq} (hc:d.cross e ≠ 0) {l:List Pq} {h:Pq} (hh:∀ q ∈ l,q ≠ h->Lx d e (h.sub q)):Xtr h l:=by
 refine ⟨Pq.zero.sub d,Pq.zero.sub e,?_,fun q h1 h2=>?_⟩
 ·intro c; apply hc; simp only [Pq.cross,Pq.sub,Pq.zero] at c ⊢; grind
 ·have:=hh q h1 h2
  unfold Lx at *
  have e1:(Pq.zero.sub d).dot (q.sub h)=d.dot (h.sub q):=by simp only [Pq.dot,Pq.sub,Pq.zero]; grind
  have e2:(Pq.zero.sub e).dot (q.sub h)=e.dot (h.sub q):=by simp only [Pq.dot,Pq.sub,Pq.zero]; grind
  rw [e1,e2]; exact this
theorem crs_anti (a b c:Pq):crs c b a = - crs a b c:=by simp only [crs,Pq.cross,Pq.sub]; grind
theorem crs_vu (u v w:Pq):crs u v w = - crs v u w:=by simp only [crs,Pq.cross,Pq.sub]; grind
theorem sub_ne {p q:Pq} (h:p ≠ q):p.sub q ≠ Pq.zero:=by
 intro c; apply h
 exact Pq.ext' (by have:=congrArg Pq.x c; simp only [Pq.sub,Pq.zero] at this; grind) (by have:=congrArg Pq.y c; simp only [Pq.sub,Pq.zero] at this; grind)
theorem sq_nn (x:Rat):0<=x*x:=by
 by_cases c:0<=x
 ·exact Rat.mul_nonneg c c
 ·have:=Rat.mul_nonneg (show 0 <= -x by grind) (show 0 <= -x by grind)
  grind
/-- At an extreme vertex a simple polygon turns. -/
theorem turn_ne {u v w:Pq} {l:List Pq} (he:Xtr v l) (hu:u ∈ l) (hw:w ∈ l) (huv:u ≠ v) (hwv:w ≠ v) (hr:RelE ⟨u,v⟩ ⟨v,w⟩):crs v u w ≠ 0:=by
 intro c0
 obtain ⟨d,e,hc,hq⟩:=he
 have lu:=hq u hu huv
 have lw:=hq w hw hwv
 have c1:(u.sub v).cross (w.sub v)=0:=c0
 obtain ⟨U,hU⟩:∃ U,U=u.sub v:=⟨_,rfl⟩
 obtain ⟨W,hW⟩:∃ W,W=w.sub v:=⟨_,rfl⟩
 rw [<-hU] at lu c1
 rw [<-hW] at lw c1
 have hW0:=lw.ne
 have n0:0 < W.dot W:=by
  simp only [Pq.dot]
  have q1:=sq_nn W.x
  have q2:=sq_nn W.y
  apply Classical.byContradiction
  intro hn
  have z1:W.x*W.x=0:=by grind
  have z2:W.y*W.y=0:=by grind
  apply hW0
  refine Pq.ext' ?_ ?_
  ·rcases Rat.mul_eq_zero.1 z1 with h | h<;>exact h
  ·rcases Rat.mul_eq_zero.1 z2 with h | h<;>exact h
 obtain ⟨t,ht⟩:∃ t,t=U.dot W / W.dot W:=⟨_,rfl⟩
 have htm:t*W.dot W=U.dot W:=by rw [ht,Rat.div_mul_cancel (by grind)]
 have ex:U.x=W.x*t:=by
  have:(U.x - W.x*t)*W.dot W=0:=by simp only [Pq.dot,Pq.cross] at *; grind
  rcases Rat.mul_eq_zero.1 this with h | h
  ·grind
  ·exact absurd h (by grind)
 have ey:U.y=W.y*t:=by
  have:(U.y - W.y*t)*W.dot W=0:=by simp only [Pq.dot,Pq.cross] at *; grind
  rcases Rat.mul_eq_zero.1 this with h | h
  ·grind
  ·exact absurd h (by grind)
 have hux:u.x=v.x+W.x*t:=by rw [<-ex,hU]; simp only [Pq.sub]; grind
 have huy:u.y=v.y+W.y*t:=by rw [<-ey,hU]; simp only [Pq.sub]; grind
 have hwx:w.x=v.x+W.x:=by rw [hW]; simp only [Pq.sub]; grind
 have hwy:w.y=v.y+W.y:=by rw [hW]; simp only [Pq.sub]; grind
 have tp:0 < t:=by
  apply Classical.byContradiction
  intro hn
  by_cases z:t=0
  ·exact lu.ne (Pq.ext' (by rw [ex,z]; show _=(0:Rat); grind) (by rw [ey,z]; show _=(0:Rat); grind))
  ·have:=lu.add (lw.scale (show 0 < -t by grind))
   exact this.ne (Pq.ext' (by simp only [Pq.add,Pq.scale,ex]; show _=(0:Rat); grind) (by simp only [Pq.add,Pq.scale,ey]; show _=(0:Rat); grind))
 have nz:¬ (W.x=0/\W.y=0):=fun h=>hW0 (Pq.ext' h.1 h.2)
 have half:((1:Int):Rat) / ((2:Int):Rat)*2=1:=by kernel_rfl
 obtain ⟨k,hk⟩:∃ k:Rat,k*2=1:=⟨_,half⟩
 by_cases cl:t<=1
 ·-- x = v + W * (t / 2)
  have s1:OnS ⟨u,v⟩ ⟨v.x+W.x*(t*k),v.y+W.y*(t*k)⟩:=
   ⟨k,by grind,by grind,Pq.ext' (by simp only [Pq.at,Pq.add,Pq.scale,Pq.sub]; rw [hux]; grind) (by simp only [Pq.at,Pq.add,Pq.scale,Pq.sub]; rw [huy]; grind)⟩
  have q1:0<=t*k:=Rat.mul_nonneg (Rat.le_of_lt tp) (by grind)
  have q2:t*k<=1:=by have:=Rat.mul_nonneg (show 0<=1 - t by grind) (show 0<=k by grind); grind
  have s2:OnS ⟨v,w⟩ ⟨v.x+W.x*(t*k),v.y+W.y*(t*k)⟩:=
   ⟨t*k,q1,q2,Pq.ext' (by simp only [Pq.at,Pq.add,Pq.scale,Pq.sub]; rw [hwx]; grind) (by simp only [Pq.at,Pq.add,Pq.scale,Pq.sub]; rw [hwy]; grind)⟩
  have tk:0 < t*k:=Rat.mul_pos tp (by grind)
  have tk1:t*k < 1:=by have:=Rat.mul_nonneg (show 0<=1 - t by grind) (show 0<=k by grind); grind
  rcases hr _ s1 s2 with ⟨_,g⟩ | ⟨_,g⟩
  ·have gx:=congrArg Pq.x g
   have gy:=congrArg Pq.y g
   simp only at gx gy
   apply nz
   constructor
   ·have:W.x*(t*k)=0:=by grind
    rcases Rat.mul_eq_zero.1 this with h | h
    ·exact h
    ·exact absurd h (by grind)
   ·have:W.y*(t*k)=0:=by grind
    rcases Rat.mul_eq_zero.1 this with h | h
    ·exact h
    ·exact absurd h (by grind)
  ·have gx:=congrArg Pq.x g
   have gy:=congrArg Pq.y g
   simp only at gx gy
   rw [hwx] at gx
   rw [hwy] at gy
   apply nz
   constructor
   ·have:W.x*(t*k - 1)=0:=by grind
    rcases Rat.mul_eq_zero.1 this with h | h
    ·exact h
    ·exact absurd h (by grind)
   ·have:W.y*(t*k - 1)=0:=by grind
    rcases Rat.mul_eq_zero.1 this with h | h
    ·exact h
    ·exact absurd h (by grind)
 ·obtain ⟨r,hrr⟩:∃ r:Rat,r*t=1:=⟨1 / t,Rat.div_mul_cancel (by grind)⟩
  have rp:0 < r:=by
   apply Classical.byContradiction
   intro hn
   have:=Rat.mul_nonneg (show 0 <= -r by grind) (Rat.le_of_lt tp)
   grind
  have r1:r<=1:=by
   apply Classical.byContradiction
   intro hn
   have:=Rat.mul_pos (show 0 < r - 1 by grind) tp
   grind
  have q1:0<=r*k:=Rat.mul_nonneg (Rat.le_of_lt rp) (by grind)
  have q2:r*k<=1:=by have:=Rat.mul_nonneg (show 0<=1 - r by grind) (show 0<=k by grind); grind
  have s1:OnS ⟨u,v⟩ ⟨v.x+W.x*k,v.y+W.y*k⟩:=
   ⟨1 - r*k,by grind,by grind,Pq.ext' (by simp only [Pq.at,Pq.add,Pq.scale,Pq.sub]; rw [hux]; grind) (by simp only [Pq.at,Pq.add,Pq.scale,Pq.sub]; rw [huy]; grind)⟩
  have s2:OnS ⟨v,w⟩ ⟨v.x+W.x*k,v.y+W.y*k⟩:=
   ⟨k,by grind,by grind,Pq.ext' (by simp only [Pq.at,Pq.add,Pq.scale,Pq.sub]; rw [hwx]; grind) (by simp only [Pq.at,Pq.add,Pq.scale,Pq.sub]; rw [hwy]; grind)⟩
  rcases hr _ s1 s2 with ⟨_,g⟩ | ⟨_,g⟩
  ·have gx:=congrArg Pq.x g
   have gy:=congrArg Pq.y g
   simp only at gx gy
   exact nz ⟨by grind,by grind⟩
  ·have gx:=congrArg Pq.x g
   have gy:=congrArg Pq.y g
   simp only at gx gy
   rw [hwx] at gx
   rw [hwy] at gy
   exact nz ⟨by grind,by grind⟩
/-- If the triangle at v is empty, the turn at its neighbour u is kept when v is taken out. -/
theorem keep_turn {v u w x:Pq} {l:List Pq} (h:crs v u w ≠ 0) (he:Xtr u l) (hx:x ∈ l) (hv:v ∈ l) (hw:w ∈ l) (xu:x ≠ u) (vu:v ≠ u) (wu:w ≠ u) (xw:x ≠ w)
  (r1:RelE ⟨x,u⟩ ⟨u,v⟩) (r2:RelE ⟨x,u⟩ ⟨v,w⟩) (hout:¬ (0<=kA v u w x/\0<=kB v u w x/\kA v u w x+kB v u w x<=1)):0 < crs x u v*crs x u w:=by
 have t1:=turn_ne he hx hv xu vu r1
 obtain ⟨D,hD⟩:∃ D,D=crs v u w:=⟨_,rfl⟩
 obtain ⟨a,ha⟩:∃ a,a=kA v u w x:=⟨_,rfl⟩
 obtain ⟨b,hb⟩:∃ b,b=kB v u w x:=⟨_,rfl⟩
 have aD:a*D=crs v x w:=by rw [ha,hD]; unfold kA; exact Rat.div_mul_cancel h
 have bD:b*D=crs v u x:=by rw [hb,hD]; unfold kB; exact Rat.div_mul_cancel h
 have e1:crs x u v = - (b*D):=by rw [bD]; exact crs_anti v u x
 have e2:crs x u w=D*(1 - a - b):=by
  have:crs x u w=crs v u w - crs v x w - crs v u x:=by simp only [crs,Pq.cross,Pq.sub]; grind
  rw [this,<-aD,<-bD,<-hD]; grind
 have e0:crs u x v=b*D:=by
  have:=crs_vu u x v
  rw [e1] at this; grind
 have b0:b ≠ 0:=fun c=>t1 (by rw [e0,c,Rat.zero_mul])
 have hDD:0 < D*D:=by
  have:=sq_nn D
  have hne:D*D ≠ 0:=fun c=>by rcases Rat.mul_eq_zero.1 c with c | c<;>exact h (hD ▸ c)
  grind
 have hk:=k_pt h x
 rw [<-ha,<-hb] at hk
 rw [<-ha,<-hb] at hout
 suffices hs:0 < (- b)*(1 - a - b) by
  have:=Rat.mul_pos hs hDD
  rw [e1,e2]; grind
 by_cases bp:0 < b
 ·have hgt:1 < a+b:=by
   apply Classical.byContradiction
   intro hn
   have an:a < 0:=by
    apply Classical.byContradiction
    intro c; exact hout ⟨by grind,by grind,by grind⟩
   have p1:0 < 1 - a:=by grind
   obtain ⟨t,ht⟩:∃ t,t=(-a) / (1 - a):=⟨_,rfl⟩
   have tm:t*(1 - a) = -a:=by rw [ht]; exact Rat.div_mul_cancel (by grind)
   have t0:0<=t:=by
    apply Classical.byContradiction
    intro c
    have:=Rat.mul_pos (show 0 < -t by grind) p1
    grind
   have t1':t<=1:=by
    apply Classical.byContradiction
    intro c
    have:=Rat.mul_pos (show 0 < t - 1 by grind) p1
    grind
   have yA:=kA_at v u w x u t
   have yB:=kB_at v u w x u t
   rw [(k_u h).1,<-ha] at yA
   rw [(k_u h).2,<-hb] at yB
   have yA0:kA v u w (x.at u t)=0:=by rw [yA]; grind
   have q1:=Rat.mul_nonneg (Rat.le_of_lt bp) (show 0<=1 - t by grind)
   have q2:=Rat.mul_nonneg (show 0<=1 - a - b by grind) (show 0<=1 - t by grind)
   have on1:OnS ⟨v,w⟩ (x.at u t):=on_vw h yA0 (by rw [yB]; grind) (by rw [yB]; grind)
   have on2:OnS ⟨x,u⟩ (x.at u t):=⟨t,t0,t1',rfl⟩
   rcases r2 _ on2 on1 with ⟨g,_⟩ | ⟨g,_⟩
   ·exact vu g.symm
   ·exact xw g.symm
  have:=Rat.mul_pos bp (show 0 < a+b - 1 by grind)
  grind
 ·have bn:0 < -b:=by grind
  have hlt:a+b < 1:=by
   apply Classical.byContradiction
   intro hn
   obtain ⟨d,e,hc,hq⟩:=he
   have lx:=hq x hx xu
   have lv:=hq v hv vu
   have lw:=hq w hw wu
   have s1:=lx.add (lw.scale bn)
   by_cases c:a+b=1
   ·exact s1.ne (Pq.ext' (by simp only [Pq.add,Pq.scale,Pq.sub]; rw [hk.1]; show _=(0:Rat); grind) (by simp only [Pq.add,Pq.scale,Pq.sub]; rw [hk.2]; show _=(0:Rat); grind))
   ·have s2:=s1.add (lv.scale (show 0 < a+b - 1 by grind))
    exact s2.ne (Pq.ext' (by simp only [Pq.add,Pq.scale,Pq.sub]; rw [hk.1]; show _=(0:Rat); grind) (by simp only [Pq.add,Pq.scale,Pq.sub]; rw [hk.2]; show _=(0:Rat); grind))
  exact Rat.mul_pos bn (by grind)
theorem edges_get {l:List Pq} {i:Nat} (hi:i < l.length):(edgesQ l)[i]'(by rw [edges_len]; exact hi)=edgeQ l i:=by
 unfold edgesQ
 simp
theorem edge_mem {l:List Pq} {i:Nat} (hi:i < l.length):edgeQ l i ∈ edgesQ l:=by
 rw [<-edges_get hi]; exact List.getElem_mem _
/-- The vertices of a simple polygon are distinct. -/
theorem Smp.dist {l:List Pq} (h:Smp l):l.Pairwise (· ≠ ·):=by
 rw [List.pairwise_iff_getElem]
 intro i j hi hj hij e
 have hp:=h.pw
 rw [List.pairwise_iff_getElem] at hp
 have hr:=hp i j (by rw [edges_len]; exact hi) (by rw [edges_len]; exact hj) hij
 rw [edges_get hi,edges_get hj] at hr
 have ei:(edgeQ l i).a=l[i]:=by unfold edgeQ at'; rw [List.getD_eq_getElem?_getD,List.getElem?_eq_getElem hi]; rfl
 have ej:(edgeQ l j).a=l[j]:=by unfold edgeQ at'; rw [List.getD_eq_getElem?_getD,List.getElem?_eq_getElem hj]; rfl
 have o1:OnS (edgeQ l i) l[i]:=ei ▸ at_on.1
 have o2:OnS (edgeQ l j) l[i]:=by rw [e]; exact ej ▸ at_on.1
 rcases hr _ o1 o2 with ⟨_,g⟩ | ⟨_,g⟩
 ·exact h.nd _ (edge_mem hi) (ei.trans g)
 ·exact h.nd _ (edge_mem hj) (ej.trans (e.symm.trans g))
theorem path_mem:∀ {p:Pq} {l:List Pq} {e:Sq},e ∈ pathE p l->e.a ∈ p::l/\e.b ∈ l
 | _,[],e,h=>by cases h
 | p,q::r,e,h=>by
  rcases List.mem_cons.1 h with rfl | h
  ·exact ⟨by simp,by simp⟩
  ·have:=path_mem h
   exact ⟨List.mem_cons_of_mem _ this.1,List.mem_cons_of_mem _ this.2⟩
/-- The edges of a polygon with three named vertices: before v, v, behind v. -/
theorem edges_vwu (v w u:Pq) (s:List Pq):edgesQ (v::w::(s++[u]))=⟨v,w⟩::(pathE w (s++[u])++[⟨u,v⟩]):=by
 rw [edges_cons]
 have:endP v (w::(s++[u]))=u:=by
  show endP w (s++[u])=u
  exact end_snoc w s u
 rw [this]; rfl
theorem edges_wu (w u:Pq) (s:List Pq):edgesQ (w::(s++[u]))=pathE w (s++[u])++[⟨u,w⟩]:=by
 rw [edges_cons,end_snoc]
/-- Pairs of edges of such a polygon. -/
structure Vwu (v w u:Pq) (s:List Pq):Prop where
 r1:∀ e ∈ pathE w (s++[u]),RelE ⟨v,w⟩ e
 r2:RelE ⟨v,w⟩ ⟨u,v⟩
 r3:(pathE w (s++[u])).Pairwise RelE
 r4:∀ e ∈ pathE w (s++[u]),RelE e ⟨u,v⟩
 nd:∀ e ∈ pathE w (s++[u]),e.a ≠ e.b
 vw:v ≠ w
 uv:u ≠ v
 uw:u ≠ w
 vs:∀ q ∈ w::(s++[u]),q ≠ v
 ws:∀ q ∈ s++[u],q ≠ w
 us:∀ q ∈ s,q ≠ u
 ds:(w::(s++[u])).Pairwise (· ≠ ·)
theorem vwu_of {v w u:Pq} {s:List Pq} (h:Smp (v::w::(s++[u]))):Vwu v w u s:=by
 have hp:=h.pw
 have hn:=h.nd
 have hd:=h.dist
 rw [edges_vwu] at hp hn
 rw [List.pairwise_cons,List.pairwise_append] at hp
 obtain ⟨p1,p2,_,p3⟩:=hp
 rw [List.pairwise_cons,List.pairwise_cons] at hd
 obtain ⟨d1,d2,d3⟩:=hd
 have d4:=d3
 rw [List.pairwise_append] at d4
 refine ⟨fun e he=>p1 e (List.mem_append_left _ he),p1 _ (by simp),p2,fun e he=>p3 e he _ (by simp),fun e he=>hn e (by simp [he]),d1 w (by simp),fun c=>d1 u (by simp) c.symm,fun c=>d2 u (by simp) c.symm,fun q hq c=>d1 q hq c.symm,fun q hq c=>d2 q hq c.symm,fun q hq=>d4.2.2 q hq u (by simp),List.pairwise_cons.2 ⟨d2,d3⟩⟩
theorem path_split (w z:Pq) (s t:List Pq):pathE w (s++z::t)=pathE w (s++[z])++pathE z t:=by
 rw [path_app,path_app]
 simp [pathE]
theorem path_last (w z:Pq) (s:List Pq):pathE w (s++[z])=pathE w s++[⟨endP w s,z⟩]:=by
 rw [path_app]; rfl
/-- An ear: no vertex lies in the triangle at v. -/
theorem smp_ear {v w u:Pq} {s:List Pq} (h:Smp (v::w::(s++[u]))) (hD:crs v u w ≠ 0) (hs:s ≠ []) (hout:∀ q ∈ s,¬ (0<=kA v u w q/\0<=kB v u w q/\kA v u w q+kB v u w q<=1)):Smp (w::(s++[u])):=by
 have hv:=vwu_of h
 obtain ⟨y,t,rfl⟩:∃ y t,s=y::t:=by
  cases s with
  | nil=>exact absurd rfl hs
  | cons y t=>exact ⟨y,t,rfl⟩
 have hnd:∀ e ∈ pathE w (y::t++[u])++[(⟨u,w⟩:Sq)],e.a ≠ e.b:=by
  intro e he
  rcases List.mem_append.1 he with he | he
  ·exact hv.nd e he
  ·rw [List.mem_singleton.1 he]; exact hv.uw
 refine ⟨by simp,by rw [edges_wu]; exact hnd,?_⟩
 rw [edges_wu,List.pairwise_append]
 refine ⟨hv.r3,List.pairwise_singleton _ _,fun e he f hf=>?_⟩
 rw [List.mem_singleton.1 hf]
 have hm:=path_mem he
 refine ear_rel hD (hv.r4 e he) (hv.r1 e he).symm (hv.vs _ hm.1) (hv.vs _ (List.mem_cons_of_mem _ hm.2)) (hv.nd e he) ?_ ?_
 ·rintro ⟨c1,c2⟩
  rcases List.mem_cons.1 (show e ∈ (⟨w,y⟩:Sq)::pathE y (t++[u]) from he) with c | c
  ·rw [c] at c2; exact hv.us y (by simp) c2
  ·have:=(path_mem c).1
   exact hv.ws e.a (by simpa using this) c1
 ·intro q hq q1 q2
  have hin:q ∈ w::(y::t++[u]):=by
   rcases hq with rfl | rfl
   ·exact hm.1
   ·exact List.mem_cons_of_mem _ hm.2
  rcases List.mem_cons.1 hin with c | c
  ·exact absurd c q2
  ·rcases List.mem_append.1 c with c | c
   ·exact hout q c
   ·exact absurd (List.mem_singleton.1 c) q1
/-- A diagonal to the nearest vertex in the triangle cuts the polygon into two simple ones. -/
theorem smp_cut {v w u z:Pq} {s1 s2:List Pq} (h:Smp (v::w::(s1++z::s2++[u]))) (hD:crs v u w ≠ 0) (za:0 < kA v u w z) (zb:0 < kB v u w z) (zs:kA v u w z+kB v u w z<=1)
  (hm:∀ q ∈ s1++z::s2,0 < kA v u w q->0 < kB v u w q->kA v u w q+kB v u w q < 1->kA v u w z+kB v u w z<=kA v u w q+kB v u w q) :
  Smp (v::w::(s1++[z]))/\Smp (v::z::(s2++[u])):=by
 have hv:=vwu_of h
 have eM:pathE w (s1++z::s2++[u])=pathE w (s1++[z])++pathE z (s2++[u]):=by
  have:=path_split w z s1 (s2++[u])
  rw [<-this]; simp
 have hr1:=hv.r1
 have hr3:=hv.r3
 have hr4:=hv.r4
 have hnd:=hv.nd
 rw [eM] at hr1 hr3 hr4 hnd
 rw [List.pairwise_append] at hr3
 obtain ⟨p1,p2,p3⟩:=hr3
 have hzv:z ≠ v:=hv.vs z (by simp)
 have off:∀ e ∈ pathE w (s1++[z])++pathE z (s2++[u]),∀ x,OnS e x->OnS ⟨z,v⟩ x->x=z:=by
  intro e he x hx hd
  have hm2:=path_mem (eM ▸ he)
  refine diag_off hD za zb zs (hr4 e he) (hr1 e he).symm (hv.vs _ hm2.1) (hv.vs _ (List.mem_cons_of_mem _ hm2.2)) (fun q hq q1 q2 q3=>?_) hx hd
  have hin:q ∈ w::(s1++z::s2++[u]):=by
   rcases hq with rfl | rfl
   ·exact hm2.1
   ·exact List.mem_cons_of_mem _ hm2.2
  rcases List.mem_cons.1 hin with c | c
  ·rw [c,(k_w hD).1] at q1; exact absurd q1 (by decide)
  ·rcases List.mem_append.1 c with c | c
   ·exact hm q c q1 q2 q3
   ·rw [List.mem_singleton.1 c,(k_u hD).2] at q2; exact absurd q2 (by decide)
 obtain ⟨y,t,ey⟩:∃ y t,s2++[u]=y::t:=by
  cases s2 with
  | nil=>exact ⟨u,[],rfl⟩
  | cons y t=>exact ⟨y,t++[u],rfl⟩
 have fM:(⟨z,y⟩:Sq) ∈ pathE z (s2++[u]):=by rw [ey]; simp [pathE]
 have gM:(⟨endP w s1,z⟩:Sq) ∈ pathE w (s1++[z]):=by rw [path_last]; simp
 have end1:∀ e ∈ pathE w (s1++[z]),OnS e z->e.b=z:=by
  intro e he ho
  rcases p3 e he _ fM z ho at_on.1 with ⟨g,_⟩ | ⟨g,g2⟩
  ·exact g
  ·exact absurd g2 (hnd ⟨z,y⟩ (List.mem_append_right _ fM))
 have end2:∀ e ∈ pathE z (s2++[u]),OnS e z->e.a=z:=by
  intro e he ho
  rcases p3 _ gM e he z at_on.2 ho with ⟨g,_⟩ | ⟨g,g2⟩
  ·exact g.symm
  ·exact absurd (g.symm.trans g2.symm) (hnd ⟨endP w s1,z⟩ (List.mem_append_left _ gM))
 have at_v:∀ x,OnS ⟨z,v⟩ x->(kA v u w x=0\/kB v u w x=0)->x=v:=by
  rintro x ⟨t,t0,t1,rfl⟩ hk
  have eA:=kA_at v u w z v t
  have eB:=kB_at v u w z v t
  rw [k_v.1] at eA
  rw [k_v.2] at eB
  have ht:t=1:=by
   rcases hk with hk | hk
   ·have:kA v u w z*(1 - t)=0:=by rw [<-hk]; show _=kA v u w (z.at v t); rw [eA]; grind
    rcases Rat.mul_eq_zero.1 this with c | c
    ·grind
    ·grind
   ·have:kB v u w z*(1 - t)=0:=by rw [<-hk]; show _=kB v u w (z.at v t); rw [eB]; grind
    rcases Rat.mul_eq_zero.1 this with c | c
    ·grind
    ·grind
  rw [ht]
  exact Pq.ext' (by simp only [Pq.at,Pq.add,Pq.scale,Pq.sub]; grind) (by simp only [Pq.at,Pq.add,Pq.scale,Pq.sub]; grind)
 have on_vw0:∀ x,OnS ⟨v,w⟩ x->kA v u w x=0:=by
  rintro x ⟨t,t0,t1,rfl⟩
  show kA v u w (v.at w t)=0
  rw [kA_at,k_v.1,(k_w hD).1]; grind
 have on_uv0:∀ x,OnS ⟨u,v⟩ x->kB v u w x=0:=by
  rintro x ⟨t,t0,t1,rfl⟩
  show kB v u w (u.at v t)=0
  rw [kB_at,k_v.2,(k_u hD).2]; grind
 constructor
 ·refine ⟨by simp,?_,?_⟩
  ·rw [edges_vwu]
   intro e he
   rcases List.mem_cons.1 he with rfl | he
   ·exact hv.vw
   ·rcases List.mem_append.1 he with he | he
    ·exact hnd e (List.mem_append_left _ he)
    ·rw [List.mem_singleton.1 he]; exact hzv
  ·rw [edges_vwu,List.pairwise_cons,List.pairwise_append]
   refine ⟨fun e he=>?_,p1,List.pairwise_singleton _ _,fun e he f hf=>?_⟩
   ·rcases List.mem_append.1 he with he | he
    ·exact hr1 e (List.mem_append_left _ he)
    ·rw [List.mem_singleton.1 he]
     intro x h1 h2
     have:=at_v x h2 (.inl (on_vw0 x h1))
     exact .inr ⟨rfl,this⟩
   ·rw [List.mem_singleton.1 hf]
    intro x h1 h2
    have ex:=off e (List.mem_append_left _ he) x h1 h2
    have eb:=end1 e he (ex ▸ h1)
    exact .inl ⟨eb,by rw [ex,eb]⟩
 ·refine ⟨by simp,?_,?_⟩
  ·rw [edges_vwu]
   intro e he
   rcases List.mem_cons.1 he with rfl | he
   ·exact hzv.symm
   ·rcases List.mem_append.1 he with he | he
    ·exact hnd e (List.mem_append_right _ he)
    ·rw [List.mem_singleton.1 he]; exact hv.uv
  ·rw [edges_vwu,List.pairwise_cons,List.pairwise_append]
   refine ⟨fun e he=>?_,p2,List.pairwise_singleton _ _,fun e he f hf=>?_⟩
   ·rcases List.mem_append.1 he with he | he
    ·intro x h1 h2
     have ex:=off e (List.mem_append_right _ he) x h2 (on_rev (s:=⟨z,v⟩) |>.1 h1)
     have ea:=end2 e he (ex ▸ h2)
     exact .inl ⟨ea.symm,ex⟩
    ·rw [List.mem_singleton.1 he]
     intro x h1 h2
     have:=at_v x (on_rev (s:=⟨z,v⟩) |>.1 h1) (.inr (on_uv0 x h2))
     exact .inr ⟨rfl,this⟩
   ·rw [List.mem_singleton.1 hf]
    exact hr4 e (List.mem_append_right _ he)
theorem crs_z1 {v u w z:Pq} (hD:crs v u w ≠ 0):crs z v w=kA v u w z*crs u v w:=by
 have:kA v u w z*crs v u w=crs v z w:=by unfold kA; exact Rat.div_mul_cancel hD
 rw [crs_vu u v w,crs_vu z v w,<-this]; grind
theorem crs_z2 {v u w z:Pq} (hD:crs v u w ≠ 0):crs u v z=kB v u w z*crs u v w:=by
 have:kB v u w z*crs v u w=crs v u z:=by unfold kB; exact Rat.div_mul_cancel hD
 rw [crs_vu u v w,crs_vu u v z,<-this]; grind
theorem sgn_mul3 {x y c:Rat} (h1:0 < x*c) (h2:0 < y*c):0 < x*y:=by
 have h3:=Rat.mul_pos h1 h2
 have h4:=sq_nn c
 have hc:c*c ≠ 0:=by
  intro e
  have:x*c*(y*c)=x*y*(c*c):=by grind
  rw [this,e,Rat.mul_zero] at h3
  exact absurd h3 (by decide)
 apply Classical.byContradiction
 intro hn
 have:=Rat.mul_nonneg (show 0 <= -(x*y) by grind) h4
 grind
end Go.Proofs.YtkipmmiiackdaaaGreat.Sx
