/- Part 23 of what the statement needs: an executor of Go texts, arithmetic, and contracts of the functions that are called. -/
import Derived.Test.YtkipmmiiackdaaaGreatCi22
set_option linter.unusedSimpArgs false
set_option linter.unusedVariables false
set_option maxHeartbeats 4000000
set_option maxRecDepth 100000
namespace Go.Proofs.YtkipmmiiackdaaaGreat.Sx
open Env (std)
theorem mul_neg_iff {a b:Rat}:a*b < 0 ↔ (a < 0/\0 < b)\/(0 < a/\b < 0):=by
 constructor
 ·intro h
  by_cases ha:0 < a
  ·refine .inr ⟨ha,?_⟩
   exact (Rat.mul_neg_iff_of_pos_left ha).1 h
  ·by_cases hb:0 < b
   ·refine .inl ⟨?_,hb⟩
    exact (Rat.mul_neg_iff_of_pos_right hb).1 h
   ·have:=Rat.mul_nonneg (a := -a) (b := -b) (by grind) (by grind)
    grind
 ·rintro (⟨h1,h2⟩ | ⟨h1,h2⟩)
  ·exact (Rat.mul_neg_iff_of_pos_right h2).2 h1
  ·exact (Rat.mul_neg_iff_of_pos_left h1).2 h2
theorem mul_pos_iff {a b:Rat}:0 < a*b ↔ (0 < a/\0 < b)\/(a < 0/\b < 0):=by
 have:=mul_neg_iff (a:=a) (b := -b)
 constructor
 ·intro h
  have h2:a * -b < 0:=by grind
  have:=this.1 h2
  grind
 ·intro h
  have:a * -b < 0:=this.2 (by grind)
  grind
theorem sgn_mul {a b:Rat}:cmpQ a 0*cmpQ b 0 = -1 ↔ a*b < 0:=by
 rw [mul_neg_iff]
 unfold cmpQ
 by_cases h1:a < 0<;>by_cases h2:0 < a<;>by_cases h3:b < 0<;>by_cases h4:0 < b<;>simp [h1,h2,h3,h4]<;>grind
/-- A number t with n = t d lies strictly between 0 and 1. -/
theorem frac_in {n d:Rat} (hd:d ≠ 0):n*(n - d) < 0 ↔ 0 < n / d/\n / d < 1:=by
 obtain ⟨t,ht⟩:∃ t,t=n / d:=⟨_,rfl⟩
 have hn:n=t*d:=by grind
 rw [<-ht,hn]
 have h2:0 < d*d:=by
  rw [mul_pos_iff]; grind
 have e:t*d*(t*d - d)=(d*d)*(t*(t - 1)):=by grind
 rw [e,Rat.mul_neg_iff_of_pos_left h2,mul_neg_iff]
 grind
def sidesQ (s t:Sq):Prop:=orQ s.a s.b t.a*orQ s.a s.b t.b = -1/\orQ t.a t.b s.a*orQ t.a t.b s.b = -1
theorem unitQ_iff {t:Rat}:unitQ t=true ↔ 0<=t/\t<=1:=by
 unfold unitQ
 rw [decide_eq_true_iff,cmpQ_ge,cmpQ_le]
theorem chkQ_iff {s:Sq}:chkQ s ≠ 0 ↔ s.a=s.b:=by
 unfold chkQ
 rw [<-cmpP_eq]
 split<;>simp_all
theorem wrongQ_iff {s t:Sq}:wrongQ s t=true ↔ s.a=s.b\/t.a=t.b:=by
 unfold wrongQ
 rw [decide_eq_true_iff,chkQ_iff,chkQ_iff]
theorem crossQ_iff {s t:Sq}:crossQ s t=true ↔ wrongQ s t=false/\∃ m,meetQ s t=some m/\m.a=m.b/\s.a ≠ m.a/\s.b ≠ m.a/\t.a ≠ m.a/\t.b ≠ m.a:=by
 unfold crossQ
 cases h:meetQ s t with
 | none=>simp
 | some m=>simp [cmpP_eq]
theorem grP_or (p q:Pq):grP p q=p\/grP p q=q:=by unfold grP; split<;>simp
theorem lsP_or (p q:Pq):lsP p q=p\/lsP p q=q:=by unfold lsP; split<;>simp
theorem ordS_a (s:Sq):(ordS s).a=s.a\/(ordS s).a=s.b:=by unfold ordS; split<;>simp
theorem ordS_b (s:Sq):(ordS s).b=s.a\/(ordS s).b=s.b:=by unfold ordS; split<;>simp
/-- Where two segments are parallel, their common points begin with an end. -/
theorem meet_par {s t m:Sq} (h:meetQ s t=some m) (hd:(s.b.sub s.a).cross (t.b.sub t.a)=0):m.a=s.a\/m.a=s.b\/m.a=t.a\/m.a=t.b:=by
 unfold meetQ at h
 rw [if_neg (by rw [cmpQ_eq.2 hd]; simp)] at h
 split at h
 ·cases h
 ·split at h
  ·cases h
  ·injection h with h
   rw [<-h]
   have:=grP_or (ordS s).a (ordS t).a
   have:=ordS_a s
   have:=ordS_a t
   grind
theorem meet_gen {s t:Sq} (hd:(s.b.sub s.a).cross (t.b.sub t.a) ≠ 0) {x y:Rat} (hx:x=((t.a.sub s.a).cross (t.b.sub t.a)) / ((s.b.sub s.a).cross (t.b.sub t.a))) (hy:y=((t.a.sub s.a).cross (s.b.sub s.a)) / ((s.b.sub s.a).cross (t.b.sub t.a))) :
  meetQ s t=if (0<=x/\x<=1)/\(0<=y/\y<=1) then some ⟨s.a.at s.b x,s.a.at s.b x⟩ else none:=by
 unfold meetQ
 rw [if_pos (by rw [ne_eq,cmpQ_eq]; exact hd),<-hx,<-hy]
 simp only [unitQ_iff]
theorem cross_iff (s t:Sq):crossQ s t=true ↔ sidesQ s t:=by
 unfold sidesQ orQ
 rw [sgn_mul,sgn_mul,crossQ_iff]
 obtain ⟨d,hd⟩:∃ d,d=(s.b.sub s.a).cross (t.b.sub t.a):=⟨_,rfl⟩
 obtain ⟨p,hp⟩:∃ d,d=(t.a.sub s.a).cross (t.b.sub t.a):=⟨_,rfl⟩
 obtain ⟨q,hq⟩:∃ d,d=(t.a.sub s.a).cross (s.b.sub s.a):=⟨_,rfl⟩
 have e1:(s.b.sub s.a).cross (t.a.sub s.a) = -q:=by rw [hq]; simp only [Pq.cross,Pq.sub]; grind
 have e2:(s.b.sub s.a).cross (t.b.sub s.a)=d - q:=by rw [hq,hd]; simp only [Pq.cross,Pq.sub]; grind
 have e3:(t.b.sub t.a).cross (s.a.sub t.a)=p:=by rw [hp]; simp only [Pq.cross,Pq.sub]; grind
 have e4:(t.b.sub t.a).cross (s.b.sub t.a)=p - d:=by rw [hp,hd]; simp only [Pq.cross,Pq.sub]; grind
 rw [e1,e2,e3,e4]
 have e5 : -q*(d - q)=q*(q - d):=by grind
 rw [e5]
 by_cases h0:d=0
 ·-- parallel: neither
  have hR:¬ (q*(q - d) < 0/\p*(p - d) < 0):=by
   rintro ⟨h,_⟩
   rw [h0,mul_neg_iff] at h
   grind
  refine iff_of_false ?_ hR
  rintro ⟨_,m,hm,_,h1,h2,h3,h4⟩
  have:=meet_par hm (by rw [<-hd,h0])
  grind
 ·rw [frac_in h0,frac_in h0]
  obtain ⟨x,hx⟩:∃ x,x=p / d:=⟨_,rfl⟩
  obtain ⟨y,hy⟩:∃ x,x=q / d:=⟨_,rfl⟩
  have hm:=meet_gen (s:=s) (t:=t) (x:=x) (y:=y) (by rw [<-hd]; exact h0) (by rw [<-hd,<-hp]; exact hx) (by rw [<-hd,<-hq]; exact hy)
  have px:p=x*d:=by grind
  have qy:q=y*d:=by grind
  rw [hm,<-hx,<-hy]
  clear hx hy hm
  obtain ⟨⟨ax,ay⟩,⟨bx,by'⟩⟩:=s
  obtain ⟨⟨cx,cy⟩,⟨dx,dy⟩⟩:=t
  simp only [Pq.cross,Pq.sub] at hd hp hq e1 e2 e3 e4
  clear e1 e2 e3 e4 e5
  -- the common point, seen from the other segment
  have f1:ax+(bx - ax)*x=cx+(dx - cx)*y:=by grind
  have f2:ay+(by' - ay)*x=cy+(dy - cy)*y:=by grind
  have nab:¬ (ax=bx/\ay=by'):=by grind
  have ncd:¬ (cx=dx/\cy=dy):=by grind
  have hw:wrongQ ⟨⟨ax,ay⟩,⟨bx,by'⟩⟩ ⟨⟨cx,cy⟩,⟨dx,dy⟩⟩=false:=by
   rw [<-Bool.not_eq_true,wrongQ_iff]
   simp only [Pq.iff]
   grind
  rw [hw]
  constructor
  ·rintro ⟨_,m,h1,_,h2,h3,h4,h5⟩
   split at h1
   ·rename_i hh
    injection h1 with h1
    rw [<-h1] at h2 h3 h4 h5
    simp only [Pq.at,Pq.add,Pq.sub,Pq.scale,ne_eq,Pq.iff] at h2 h3 h4 h5
    rw [f1,f2] at h4 h5
    refine ⟨⟨?_,?_⟩,⟨?_,?_⟩⟩
    ·refine Rat.lt_of_le_of_ne hh.2.1 (fun e=>h4 ?_); rw [<-e]; grind
    ·refine Rat.lt_of_le_of_ne hh.2.2 (fun e=>h5 ?_); rw [e]; grind
    ·refine Rat.lt_of_le_of_ne hh.1.1 (fun e=>h2 ?_); rw [<-e]; grind
    ·refine Rat.lt_of_le_of_ne hh.1.2 (fun e=>h3 ?_); rw [e]; grind
   ·cases h1
  ·rintro ⟨⟨h1,h2⟩,h3,h4⟩
   rw [if_pos ⟨⟨Rat.le_of_lt h3,Rat.le_of_lt h4⟩,Rat.le_of_lt h1,Rat.le_of_lt h2⟩]
   refine ⟨rfl,_,rfl,rfl,?_,?_,?_,?_⟩
   ·simp only [Pq.at,Pq.add,Pq.sub,Pq.scale,ne_eq,Pq.iff]
    rintro ⟨g1,g2⟩
    have:(bx - ax)*x=0:=by grind
    have:(by' - ay)*x=0:=by grind
    grind
   ·simp only [Pq.at,Pq.add,Pq.sub,Pq.scale,ne_eq,Pq.iff]
    rintro ⟨g1,g2⟩
    have:(bx - ax)*(x - 1)=0:=by grind
    have:(by' - ay)*(x - 1)=0:=by grind
    grind
   ·simp only [Pq.at,Pq.add,Pq.sub,Pq.scale,ne_eq,Pq.iff]
    rw [f1,f2]
    rintro ⟨g1,g2⟩
    have:(dx - cx)*y=0:=by grind
    have:(dy - cy)*y=0:=by grind
    grind
   ·simp only [Pq.at,Pq.add,Pq.sub,Pq.scale,ne_eq,Pq.iff]
    rw [f1,f2]
    rintro ⟨g1,g2⟩
    have:(dx - cx)*(y - 1)=0:=by grind
    have:(dy - cy)*(y - 1)=0:=by grind
    grind
theorem cmpP_lt {p q:Pq}:cmpP p q < 0 ↔ p.x < q.x\/(p.x=q.x/\p.y < q.y):=by
 unfold cmpP cmpQ; grind
theorem cmpP_gt {p q:Pq}:0 < cmpP p q ↔ q.x < p.x\/(p.x=q.x/\q.y < p.y):=by
 unfold cmpP cmpQ; grind
theorem cmpP_le {p q:Pq}:cmpP p q<=0 ↔ p.x < q.x\/(p.x=q.x/\p.y<=q.y):=by
 unfold cmpP cmpQ; grind
theorem cmpP_ge {p q:Pq}:0<=cmpP p q ↔ q.x < p.x\/(p.x=q.x/\q.y<=p.y):=by
 unfold cmpP cmpQ; grind
theorem cmpP_mul {a b c d:Pq}:0<=cmpP a b*cmpP c d ↔ (cmpP a b<=0/\cmpP c d<=0)\/(0<=cmpP a b/\0<=cmpP c d):=by
 rcases cmpP_rng a b with h | h | h<;>rcases cmpP_rng c d with h' | h' | h'<;>rw [h,h']<;>decide
/-- The points of a segment. -/
def OnS (s:Sq) (p:Pq):Prop:=∃ t:Rat,0<=t/\t<=1/\p=s.a.at s.b t
theorem mul_le_self {a t:Rat} (ha:0<=a) (h0:0<=t) (h1:t<=1):0<=a*t/\a*t<=a:=by
 have h2:=Rat.mul_nonneg ha h0
 have h3:=Rat.mul_nonneg ha (show 0<=1 - t by grind)
 grind
theorem div_in {n d:Rat} (hd:0 < d):(0<=n / d ↔ 0<=n)/\(n / d<=1 ↔ n<=d):=by
 obtain ⟨t,ht⟩:∃ t,t=n / d:=⟨_,rfl⟩
 have hn:n=d*t:=by grind
 rw [<-ht]
 constructor
 ·constructor
  ·intro h; have:=Rat.mul_nonneg (Rat.le_of_lt hd) h; grind
  ·intro h
   refine Decidable.byContradiction fun c=>?_
   have:=(Rat.mul_neg_iff_of_pos_left hd).2 (show t < 0 by grind)
   grind
 ·constructor
  ·intro h; have:=Rat.mul_nonneg (Rat.le_of_lt hd) (show 0<=1 - t by grind); grind
  ·intro h
   refine Decidable.byContradiction fun c=>?_
   have:=(Rat.mul_neg_iff_of_pos_left hd).2 (show 1 - t < 0 by grind)
   grind
theorem on_iff (s:Sq) (p:Pq):onQ s p=true ↔ OnS s p:=by
 obtain ⟨⟨ax,ay⟩,⟨bx,by'⟩⟩:=s
 obtain ⟨px,py⟩:=p
 unfold onQ btwQ OnS orQ
 rw [decide_eq_true_iff,cmpQ_eq,cmpP_mul,cmpP_le,cmpP_le,cmpP_ge,cmpP_ge,ne_eq,cmpP_eq,cmpP_eq]
 simp only [Pq.cross,Pq.sub,Pq.at,Pq.add,Pq.scale,Pq.iff]
 constructor
 ·rintro ⟨h1,h2,h3⟩
  by_cases hab:ax=bx/\ay=by'
  ·exact ⟨0,by grind,by grind,by grind,by grind⟩
  ·by_cases hx:ax=bx
   ·have hy:by' ≠ ay:=by grind
    have hpx:px=ax:=by
     have:(by' - ay)*(px - ax)=0:=by grind
     grind
    refine ⟨(py - ay) / (by' - ay),?_,?_,by grind,by grind⟩
    ·by_cases g:ay < by'
     ·rw [(div_in (by grind)).1]; grind
     ·have e:(py - ay) / (by' - ay)=(ay - py) / (ay - by'):=by grind
      rw [e,(div_in (by grind)).1]; grind
    ·by_cases g:ay < by'
     ·rw [(div_in (by grind)).2]; grind
     ·have e:(py - ay) / (by' - ay)=(ay - py) / (ay - by'):=by grind
      rw [e,(div_in (by grind)).2]; grind
   ·refine ⟨(px - ax) / (bx - ax),?_,?_,by grind,by grind⟩
    ·by_cases g:ax < bx
     ·rw [(div_in (by grind)).1]; grind
     ·have e:(px - ax) / (bx - ax)=(ax - px) / (ax - bx):=by grind
      rw [e,(div_in (by grind)).1]; grind
    ·by_cases g:ax < bx
     ·rw [(div_in (by grind)).2]; grind
     ·have e:(px - ax) / (bx - ax)=(ax - px) / (ax - bx):=by grind
      rw [e,(div_in (by grind)).2]; grind
 ·rintro ⟨t,h0,h1,h2,h3⟩
  refine ⟨by grind,?_,?_⟩
  ·by_cases g:ax < bx
   ·have:=mul_le_self (a:=bx - ax) (t:=t) (by grind) h0 h1
    by_cases g2:ay<=by'
    ·have:=mul_le_self (a:=by' - ay) (t:=t) (by grind) h0 h1
     by_cases e0:px=ax
     ·have:(bx - ax)*t=0:=by grind
      have:t=0:=by grind
      grind
     ·by_cases e1:px=bx
      ·have:(bx - ax)*(t - 1)=0:=by grind
       have:t=1:=by grind
       grind
      ·grind
    ·by_cases e0:px=ax
     ·have:(bx - ax)*t=0:=by grind
      have:t=0:=by grind
      grind
     ·by_cases e1:px=bx
      ·have:(bx - ax)*(t - 1)=0:=by grind
       have:t=1:=by grind
       grind
      ·grind
   ·by_cases g':bx < ax
    ·have:=mul_le_self (a:=ax - bx) (t:=t) (by grind) h0 h1
     by_cases e0:px=ax
     ·have:(bx - ax)*t=0:=by grind
      have:t=0:=by grind
      grind
     ·by_cases e1:px=bx
      ·have:(bx - ax)*(t - 1)=0:=by grind
       have:t=1:=by grind
       grind
      ·grind
    ·have hx:ax=bx:=by grind
     by_cases g2:ay<=by'
     ·have:=mul_le_self (a:=by' - ay) (t:=t) (by grind) h0 h1
      grind
     ·have:=mul_le_self (a:=ay - by') (t:=t) (by grind) h0 h1
      grind
  ·by_cases hab:ax=bx/\ay=by'
   ·grind
   ·exact .inl hab
/-- The lexicographic order. -/
def leP (p q:Pq):Prop:=p.x < q.x\/(p.x=q.x/\p.y<=q.y)
theorem leP_cmp {p q:Pq}:cmpP p q<=0 ↔ leP p q:=cmpP_le
theorem leP_cmp' {p q:Pq}:0<=cmpP p q ↔ leP q p:=by
 rw [cmpP_ge]; unfold leP; grind
theorem leP_lt {p q:Pq}:¬ leP p q ↔ 0 < cmpP p q:=by
 rw [cmpP_gt]; unfold leP; grind
theorem leP_anti {p q:Pq} (h:leP p q) (h':leP q p):p=q:=by
 unfold leP at h h'
 exact Pq.ext' (by grind) (by grind)
theorem leP_refl (p:Pq):leP p p:=by unfold leP; grind
theorem leP_trans {p q r:Pq} (h:leP p q) (h':leP q r):leP p r:=by unfold leP at *; grind
theorem on_lex (s:Sq) (p:Pq):OnS s p ↔ (s.b.sub s.a).cross (p.sub s.a)=0/\leP (ordS s).a p/\leP p (ordS s).b:=by
 rw [<-on_iff]
 unfold onQ btwQ orQ
 rw [decide_eq_true_iff,cmpQ_eq,cmpP_mul,leP_cmp,leP_cmp,leP_cmp',leP_cmp',ne_eq,cmpP_eq,cmpP_eq]
 refine and_congr_right fun _=>?_
 unfold ordS
 split
 ·rename_i h
  rw [<-leP_lt] at h
  have n:¬ s.a=s.b:=fun e=>h (by rw [e]; exact leP_refl _)
  constructor
  ·rintro ⟨h1 | h1,_⟩
   ·exact absurd (leP_trans h1.1 h1.2) h
   ·exact ⟨h1.2,h1.1⟩
  ·intro h1; exact ⟨.inr ⟨h1.2,h1.1⟩,.inl n⟩
 ·rename_i h
  rw [<-leP_lt,Classical.not_not] at h
  constructor
  ·rintro ⟨h1 | h1,h2⟩
   ·exact h1
   ·rcases h2 with h2 | h2
    ·exact absurd (leP_anti h (leP_trans h1.2 h1.1)) h2
    ·rw [<-h2]; exact ⟨leP_refl _,h⟩
  ·intro h1
   refine ⟨.inl h1,?_⟩
   by_cases e:s.a=s.b
   ·rw [<-e] at h1; exact .inr (leP_anti h1.1 h1.2)
   ·exact .inl e
theorem gr_le {p q x:Pq}:leP (grP p q) x ↔ leP p x/\leP q x:=by
 unfold grP
 split
 ·rename_i h
  have h:leP p q:=by rw [cmpP_lt] at h; unfold leP; grind
  exact ⟨fun g=>⟨leP_trans h g,g⟩,fun g=>g.2⟩
 ·rename_i h
  have h:leP q p:=by rw [<-leP_cmp']; omega
  exact ⟨fun g=>⟨g,leP_trans h g⟩,fun g=>g.1⟩
theorem ls_le {p q x:Pq}:leP x (lsP p q) ↔ leP x p/\leP x q:=by
 unfold lsP
 split
 ·rename_i h
  have h:leP p q:=by rw [cmpP_lt] at h; unfold leP; grind
  exact ⟨fun g=>⟨g,leP_trans g h⟩,fun g=>g.1⟩
 ·rename_i h
  have h:leP q p:=by rw [<-leP_cmp']; omega
  exact ⟨fun g=>⟨leP_trans g h,g⟩,fun g=>g.2⟩
/-- Parallel vectors. -/
theorem par {u v:Pq} (hu:¬ (u.x=0/\u.y=0)) (h:u.cross v=0):∃ k,v.x=k*u.x/\v.y=k*u.y:=by
 unfold Pq.cross at h
 by_cases hx:u.x=0
 ·have hy:u.y ≠ 0:=fun e=>hu ⟨hx,e⟩
  refine ⟨v.y / u.y,?_,by grind⟩
  have:u.y*v.x=0:=by grind
  grind
 ·exact ⟨v.x / u.x,by grind,by grind⟩
theorem at_on {s:Sq}:OnS s s.a/\OnS s s.b:=by
 refine ⟨⟨0,by grind,by grind,Pq.ext' ?_ ?_⟩,⟨1,by grind,by grind,Pq.ext' ?_ ?_⟩⟩<;>simp only [Pq.at,Pq.add,Pq.sub,Pq.scale]<;>grind
/-- What the common points of two valid segments are. -/
theorem meet_on {s t:Sq} (hs:s.a ≠ s.b) (ht:t.a ≠ t.b) (x:Pq):OnS s x/\OnS t x ↔ ∃ m,meetQ s t=some m/\OnS m x:=by
 by_cases h0:(s.b.sub s.a).cross (t.b.sub t.a)=0
 ·by_cases h1:(s.b.sub s.a).cross (t.a.sub s.a)=0
  ·-- on one line
   have hu:¬ ((s.b.sub s.a).x=0/\(s.b.sub s.a).y=0):=fun h=>hs (Pq.ext' (by have:=h.1; simp only [Pq.sub] at this; grind) (by have:=h.2; simp only [Pq.sub] at this; grind))
   obtain ⟨k,hk1,hk2⟩:=par hu h0
   obtain ⟨j,hj1,hj2⟩:=par hu h1
   have hk:k ≠ 0:=by
    intro e
    refine ht (Pq.ext' ?_ ?_)
    ·simp only [Pq.sub] at hk1; grind
    ·simp only [Pq.sub] at hk2; grind
   have hL:∀ p:Pq,(t.b.sub t.a).cross (p.sub t.a)=0 ↔ (s.b.sub s.a).cross (p.sub s.a)=0:=by
    intro p
    have e:(t.b.sub t.a).cross (p.sub t.a)=k*(s.b.sub s.a).cross (p.sub s.a):=by
     simp only [Pq.cross,Pq.sub] at *
     grind
    rw [e,Rat.mul_eq_zero]
    exact ⟨fun h=>h.resolve_left hk,.inr⟩
   rw [on_lex,on_lex,hL]
   have hm:meetQ s t=if cmpP (grP (ordS s).a (ordS t).a) (lsP (ordS s).b (ordS t).b) > 0 then none else some ⟨grP (ordS s).a (ordS t).a,lsP (ordS s).b (ordS t).b⟩:=by
    unfold meetQ
    rw [if_neg (by rw [cmpQ_eq.2 h0]; simp),if_neg (by rw [cmpQ_eq.2 h1]; simp)]
   obtain ⟨a,ha⟩:∃ a,a=grP (ordS s).a (ordS t).a:=⟨_,rfl⟩
   obtain ⟨b,hb⟩:∃ a,a=lsP (ordS s).b (ordS t).b:=⟨_,rfl⟩
   have hx:(leP (ordS s).a x/\leP x (ordS s).b)/\(leP (ordS t).a x/\leP x (ordS t).b) ↔ leP a x/\leP x b:=by
    rw [ha,hb,gr_le,ls_le]
    exact ⟨fun h=>⟨⟨h.1.1,h.2.1⟩,h.1.2,h.2.2⟩,fun h=>⟨⟨h.1.1,h.2.1⟩,h.1.2,h.2.2⟩⟩
   have hleft:((s.b.sub s.a).cross (x.sub s.a)=0/\leP (ordS s).a x/\leP x (ordS s).b)/\(s.b.sub s.a).cross (x.sub s.a)=0/\leP (ordS t).a x/\leP x (ordS t).b ↔ (s.b.sub s.a).cross (x.sub s.a)=0/\leP a x/\leP x b:=by
    rw [<-hx]
    exact ⟨fun h=>⟨h.1.1,h.1.2,h.2.2⟩,fun h=>⟨⟨h.1,h.2.1⟩,h.1,h.2.2⟩⟩
   rw [hleft,hm,<-ha,<-hb]
   -- a and b lie on the line
   have lS:(s.b.sub s.a).cross (s.a.sub s.a)=0/\(s.b.sub s.a).cross (s.b.sub s.a)=0:=by simp only [Pq.cross,Pq.sub]; grind
   have lT:(s.b.sub s.a).cross (t.a.sub s.a)=0/\(s.b.sub s.a).cross (t.b.sub s.a)=0:=by
    refine ⟨h1,?_⟩
    rw [<-hL]; simp only [Pq.cross,Pq.sub]; grind
   have la:(s.b.sub s.a).cross (a.sub s.a)=0:=by
    rcases grP_or (ordS s).a (ordS t).a with h | h<;>rw [ha,h]
    ·rcases ordS_a s with h | h<;>rw [h]
     ·exact lS.1
     ·exact lS.2
    ·rcases ordS_a t with h | h<;>rw [h]
     ·exact lT.1
     ·exact lT.2
   have lb:(s.b.sub s.a).cross (b.sub s.a)=0:=by
    rcases lsP_or (ordS s).b (ordS t).b with h | h<;>rw [hb,h]
    ·rcases ordS_b s with h | h<;>rw [h]
     ·exact lS.1
     ·exact lS.2
    ·rcases ordS_b t with h | h<;>rw [h]
     ·exact lT.1
     ·exact lT.2
   split
   ·rename_i hc
    have hc:¬ leP a b:=leP_lt.2 hc
    constructor
    ·rintro ⟨_,h2,h3⟩; exact absurd (leP_trans h2 h3) hc
    ·rintro ⟨m,h,_⟩; cases h
   ·rename_i hc
    have hc:leP a b:=by rw [<-leP_cmp]; omega
    have ho:ordS ⟨a,b⟩=⟨a,b⟩:=by
     unfold ordS
     rw [if_neg (by rw [<-leP_lt,Classical.not_not]; exact hc)]
    have hR:(∃ m,some (⟨a,b⟩:Sq)=some m/\OnS m x) ↔ OnS ⟨a,b⟩ x:=by
     constructor
     ·rintro ⟨m,h,h'⟩; injection h with h; rw [h]; exact h'
     ·intro h; exact ⟨_,rfl,h⟩
    rw [hR,on_lex,ho]
    constructor
    ·rintro ⟨h2,h3,h4⟩
     refine ⟨?_,h3,h4⟩
     obtain ⟨k1,q1,q2⟩:=par hu la
     obtain ⟨k2,q3,q4⟩:=par hu lb
     obtain ⟨k3,q5,q6⟩:=par hu h2
     simp only [Pq.cross,Pq.sub] at *
     grind
    ·rintro ⟨h2,h3,h4⟩
     refine ⟨?_,h3,h4⟩
     by_cases e:a=b
     ·rw [<-e] at h4
      rw [<-leP_anti h3 h4]; exact la
     ·obtain ⟨k1,q1,q2⟩:=par hu la
      obtain ⟨k2,q3,q4⟩:=par hu lb
      have ne:k2 - k1 ≠ 0:=by
       intro e'
       refine e (Pq.ext' ?_ ?_)
       ·simp only [Pq.sub] at q1 q3; grind
       ·simp only [Pq.sub] at q2 q4; grind
      have e2:(b.sub a).cross (x.sub a)=(k2 - k1)*(s.b.sub s.a).cross (x.sub s.a):=by
       simp only [Pq.cross,Pq.sub] at *
       grind
      have h2:(b.sub a).cross (x.sub a)=0:=h2
      rw [e2,Rat.mul_eq_zero] at h2
      exact h2.resolve_left ne
  ·-- parallel lines
   have hm:meetQ s t=none:=by
    unfold meetQ
    rw [if_neg (by rw [cmpQ_eq.2 h0]; simp),if_pos (by rw [ne_eq,cmpQ_eq]; exact h1)]
   rw [hm]
   refine iff_of_false ?_ (by rintro ⟨m,h,_⟩; cases h)
   rintro ⟨⟨l,_,_,hl⟩,⟨n,_,_,hn⟩⟩
   rw [hl] at hn
   have:=Pq.iff.1 hn
   simp only [Pq.at,Pq.add,Pq.sub,Pq.scale,Pq.cross] at *
   refine h1 ?_
   grind
 ·-- one common point at most
  obtain ⟨u,hu⟩:∃ x,x=((t.a.sub s.a).cross (t.b.sub t.a)) / ((s.b.sub s.a).cross (t.b.sub t.a)):=⟨_,rfl⟩
  obtain ⟨v,hv⟩:∃ x,x=((t.a.sub s.a).cross (s.b.sub s.a)) / ((s.b.sub s.a).cross (t.b.sub t.a)):=⟨_,rfl⟩
  rw [meet_gen h0 hu hv]
  have eu:(t.a.sub s.a).cross (t.b.sub t.a)=u*(s.b.sub s.a).cross (t.b.sub t.a):=by grind
  have ev:(t.a.sub s.a).cross (s.b.sub s.a)=v*(s.b.sub s.a).cross (t.b.sub t.a):=by grind
  have f:s.a.at s.b u=t.a.at t.b v:=by
   refine Pq.ext' ?_ ?_
   ·simp only [Pq.at,Pq.add,Pq.sub,Pq.scale,Pq.cross] at *; grind
   ·simp only [Pq.at,Pq.add,Pq.sub,Pq.scale,Pq.cross] at *; grind
  constructor
  ·rintro ⟨⟨l,l0,l1,hl⟩,⟨n,n0,n1,hn⟩⟩
   have hh:=Pq.iff.1 (hl.symm.trans hn)
   have el:l=u:=by
    have:(l - u)*(s.b.sub s.a).cross (t.b.sub t.a)=0:=by
     simp only [Pq.at,Pq.add,Pq.sub,Pq.scale,Pq.cross] at *; grind
    grind
   have en:n=v:=by
    have:(n - v)*(s.b.sub s.a).cross (t.b.sub t.a)=0:=by
     simp only [Pq.at,Pq.add,Pq.sub,Pq.scale,Pq.cross] at *; grind
    grind
   rw [<-el,<-en,if_pos ⟨⟨l0,l1⟩,n0,n1⟩]
   refine ⟨_,rfl,0,by grind,by grind,?_⟩
   rw [hl]
   refine Pq.ext' ?_ ?_<;>simp only [Pq.at,Pq.add,Pq.sub,Pq.scale]<;>grind
  ·rintro ⟨m,h,w,_,_,hw⟩
   split at h
   ·rename_i hh
    injection h with h
    have:x=s.a.at s.b u:=by
     rw [hw,<-h]
     refine Pq.ext' ?_ ?_<;>simp only [Pq.at,Pq.add,Pq.sub,Pq.scale]<;>grind
    exact ⟨⟨u,hh.1.1,hh.1.2,this⟩,⟨v,hh.2.1,hh.2.2,by rw [this,f]⟩⟩
   ·cases h
/-- Is a point the last one? -/
def lastIs (l:List Pq) (p:Pq):Bool:=match l.getLast? with
 | none=>false
 | some q=>decide (cmpP p q=0)
/-- A list without what stands twice, one behind the other: point after point. -/
def ddS (acc:List Pq) (p:Pq):List Pq:=if lastIs acc p=true then acc else acc++[p]
def dd (l:List Pq):List Pq:=l.foldl ddS []
/-- The element of a list of points at a place. -/
def at' (l:List Pq) (i:Nat):Pq:=l.getD i Pq.zero
theorem at_set {l:List Pq} {i j:Nat} {p:Pq} (h:i < l.length):at' (l.set i p) j=if i=j then p else at' l j:=by
 unfold at'
 rw [List.getD_eq_getElem?_getD,List.getD_eq_getElem?_getD,List.getElem?_set]
 by_cases e:i=j
 ·subst e; simp [h]
 ·simp [e]
theorem at_mem {l:List Pq} {i:Nat} (h:i < l.length):at' l i ∈ l:=by
 unfold at'; rw [List.getD_eq_getElem?_getD,List.getElem?_eq_getElem h]; exact List.getElem_mem h
theorem mem_at {l:List Pq} {x:Pq}:x ∈ l ↔ ∃ i,i < l.length/\at' l i=x:=by
 constructor
 ·intro h
  obtain ⟨i,hi,e⟩:=List.mem_iff_getElem.1 h
  exact ⟨i,hi,by unfold at'; rw [List.getD_eq_getElem?_getD,List.getElem?_eq_getElem hi]; exact e⟩
 ·rintro ⟨i,hi,rfl⟩; exact at_mem hi
/-- Two elements of a list change places. -/
def swp (l:List Pq) (i j:Nat):List Pq:=(l.set i (at' l j)).set j (at' l i)
theorem swp_len (l:List Pq) (i j:Nat):(swp l i j).length=l.length:=by unfold swp; simp
theorem swp_at {l:List Pq} {i j k:Nat} (hi:i < l.length) (hj:j < l.length):at' (swp l i j) k=if j=k then at' l i else if i=k then at' l j else at' l k:=by
 unfold swp
 rw [at_set (by simpa using hj),at_set hi]
/-- Reverse, a round: what lies outside is turned. -/
structure RevI (l0 l:List Pq) (i:Nat) (j:Int):Prop where
 len:l.length=l0.length
 sum:(i:Int)+j=(l0.length:Int) - 1
 le:(i:Int)<=j+1
 out:∀ k,k < l0.length->(k < i\/j < k)->at' l k=at' l0 (l0.length - 1 - k)
 inn:∀ k,i<=k->(k:Int)<=j->at' l k=at' l0 k
theorem at_ext {l l':List Pq} (h:l.length=l'.length) (e:∀ k,k < l.length->at' l k=at' l' k):l=l':=by
 apply List.ext_getElem h
 intro k h1 h2
 have:=e k h1
 unfold at' at this
 rw [List.getD_eq_getElem?_getD,List.getD_eq_getElem?_getD,List.getElem?_eq_getElem h1,List.getElem?_eq_getElem h2] at this
 exact this
theorem at_rev {l:List Pq} {k:Nat} (h:k < l.length):at' l.reverse k=at' l (l.length - 1 - k):=by
 unfold at'
 rw [List.getD_eq_getElem?_getD,List.getD_eq_getElem?_getD,List.getElem?_reverse h]
theorem RevI.first (l:List Pq):RevI l l 0 ((l.length:Int) - 1):=⟨rfl,by omega,by omega,fun k h1 h2=>by omega,fun _ _ _=>rfl⟩
theorem RevI.step {l0 l:List Pq} {i:Nat} {j:Int} (h:RevI l0 l i j) (hc:(i:Int) < j):RevI l0 (swp l i j.toNat) (i+1) (j - 1):=by
 have h1:=h.sum
 have h2:=h.len
 have hi:i < l.length:=by omega
 have hj:j.toNat < l.length:=by omega
 refine ⟨by rw [swp_len]; exact h.len,by omega,by omega,fun k hk ho=>?_,fun k h3 h4=>?_⟩
 ·rw [swp_at hi hj]
  by_cases c1:j.toNat=k
  ·rw [if_pos c1,h.inn i (by omega) (by omega)]; congr 1; omega
  ·rw [if_neg c1]
   by_cases c2:i=k
   ·rw [if_pos c2,h.inn j.toNat (by omega) (by omega)]; congr 1; omega
   ·rw [if_neg c2]; exact h.out k hk (by omega)
 ·rw [swp_at hi hj,if_neg (by omega),if_neg (by omega)]; exact h.inn k (by omega) (by omega)
theorem RevI.done {l0 l:List Pq} {i:Nat} {j:Int} (h:RevI l0 l i j) (hc:¬ (i:Int) < j):l=l0.reverse:=by
 refine at_ext (by rw [h.len,List.length_reverse]) (fun k hk=>?_)
 have h1:=h.sum
 have h2:=h.len
 have h3:=h.le
 rw [at_rev (by omega)]
 by_cases c:k < i\/j < k
 ·exact h.out k (by omega) c
 ·rw [h.inn k (by omega) (by omega)]; congr 1; omega
def edgeQ (l:List Pq) (i:Nat):Sq:=⟨at' l i,at' l ((i+1) % l.length)⟩
def edgesQ (l:List Pq):List Sq:=(List.range l.length).map (edgeQ l)
def sumE (f:Sq->Rat) (es:List Sq):Rat:=es.foldl (fun s e=>s+f e) 0
def sumP (f:Sq->Pq) (es:List Sq):Pq:=es.foldl (fun s e=>s.add (f e)) Pq.zero
def crE (e:Sq):Rat:=e.a.cross e.b
def areaQ (l:List Pq):Rat:=sumE crE (edgesQ l) / ((2:Int):Rat)
def upQ (q p:Pq):Bool:=decide (0 < cmpQ q.y p.y)
/-- Does an edge cross the ray from p to the right? -/
def oddE (p:Pq) (e:Sq):Bool:=if upQ e.a p=true then (!upQ e.b p && (upQ e.a p && decide (0 < orQ e.b e.a p))) else (!upQ e.a p && (upQ e.b p && decide (0 < orQ e.a e.b p)))
def parE (p:Pq) (es:List Sq):Bool:=es.foldl (fun b e=>if oddE p e=true then !b else b) false
def oddQ (l:List Pq) (p:Pq):Bool:=parE p (edgesQ l)
def onE (l:List Pq) (p:Pq):Bool:=(edgesQ l).any fun e=>btwQ e.a e.b p
def sideQ (l:List Pq) (p:Pq):Int:=if onE l p=true then 0 else if oddQ l p=true then 1 else -1
def flatAt (l:List Pq) (i:Nat):Bool:=decide (orQ (at' l ((i+l.length - 1) % l.length)) (at' l i) (at' l ((i+1) % l.length))=0)
def flatB (l:List Pq):Bool:=(List.range l.length).any (flatAt l)
def crossAt (l:List Pq) (i k:Nat):Bool := !(decide (i=0) && decide (k=l.length - 1)) && meetB (edgeQ l i) (edgeQ l k)
def crossB (l:List Pq):Bool:=(List.range l.length).any fun i=>(List.range l.length).any fun k=>decide (i+2<=k) && crossAt l i k
def firstI (l:List Pq):Nat:=(List.range l.length).foldl (fun k i=>if cmpP (at' l i) (at' l k) < 0 then i else k) 0
def remAt (l:List Pq) (i:Nat):Bool:=decide (cmpP (at' l i) (at' l ((i+1) % l.length))=0) || flatAt l i
def centE (e:Sq):Pq:=(e.a.add e.b).scale (crE e)
def centQ (l:List Pq):Pq:=(sumP centE (edgesQ l)).scale (((1:Int):Rat) / (((6:Int):Rat)*areaQ l))
theorem edges_len (l:List Pq):(edgesQ l).length=l.length:=by unfold edgesQ; simp
theorem edges_take {l:List Pq} {i:Nat} (h:i < l.length):(edgesQ l).take (i+1)=(edgesQ l).take i++[edgeQ l i]:=by
 rw [List.take_add_one]
 congr 1
 unfold edgesQ
 rw [List.getElem?_map,List.getElem?_eq_getElem (by simpa using h)]
 simp
theorem edges_all {l:List Pq} {i:Nat} (h:l.length<=i):(edgesQ l).take i=edgesQ l:=List.take_of_length_le (by rw [edges_len]; exact h)
theorem sumE_snoc (f:Sq->Rat) (es:List Sq) (e:Sq):sumE f (es++[e])=sumE f es+f e:=by unfold sumE; rw [List.foldl_append]; rfl
theorem sumP_snoc (f:Sq->Pq) (es:List Sq) (e:Sq):sumP f (es++[e])=(sumP f es).add (f e):=by unfold sumP; rw [List.foldl_append]; rfl
theorem parE_snoc (p:Pq) (es:List Sq) (e:Sq):parE p (es++[e])=if oddE p e=true then !parE p es else parE p es:=by unfold parE; rw [List.foldl_append]; rfl
theorem at_bd {k:Nat} {l:List Pq} (h:∀ p ∈ l,BdP k p) {i:Nat} (hi:i < l.length):BdP k (at' l i):=h _ (at_mem hi)
theorem edge_bd {k:Nat} {l:List Pq} (h:∀ p ∈ l,BdP k p) {i:Nat} (hi:i < l.length):BdS k (edgeQ l i):=
 ⟨at_bd h hi,at_bd h (Nat.mod_lt _ (by omega))⟩
theorem edges_bd {k:Nat} {l:List Pq} (h:∀ p ∈ l,BdP k p):∀ e ∈ edgesQ l,BdS k e:=by
 intro e he
 unfold edgesQ at he
 obtain ⟨i,hi,rfl⟩:=List.mem_map.1 he
 exact edge_bd h (by simpa using hi)
theorem sumE_bd {f:Sq->Rat} {m:Nat}:∀ (es:List Sq),(∀ e ∈ es,Bd m (f e))->Bd (es.length*(m+1)+1) (sumE f es):=by
 intro es
 induction h:es.length generalizing es with
 | zero=>
  intro _
  have:es=[]:=List.eq_nil_of_length_eq_zero h
  subst this
  exact Bd.zero (by omega)
 | succ n ih=>
  intro hb
  obtain ⟨r,e,rfl⟩:∃ r e,es=r++[e]:=⟨es.dropLast,es.getLast (by intro h'; rw [h'] at h; simp at h),(List.dropLast_concat_getLast _).symm⟩
  rw [sumE_snoc]
  have h1:=ih r (by simp at h; exact h) (fun x hx=>hb x (by simp [hx]))
  exact (h1.add (hb e (by simp))).mono (by rw [Nat.succ_mul]; omega)
theorem sumP_bd {f:Sq->Pq} {m:Nat}:∀ (es:List Sq),(∀ e ∈ es,BdP m (f e))->BdP (es.length*(m+1)+1) (sumP f es):=by
 intro es
 induction h:es.length generalizing es with
 | zero=>
  intro _
  have:es=[]:=List.eq_nil_of_length_eq_zero h
  subst this
  exact BdP.zero (by omega)
 | succ n ih=>
  intro hb
  obtain ⟨r,e,rfl⟩:∃ r e,es=r++[e]:=⟨es.dropLast,es.getLast (by intro h'; rw [h'] at h; simp at h),(List.dropLast_concat_getLast _).symm⟩
  rw [sumP_snoc]
  have h1:=ih r (by simp at h; exact h) (fun x hx=>hb x (by simp [hx]))
  exact (h1.add (hb e (by simp))).mono (by rw [Nat.succ_mul]; omega)
theorem crE_bd {k:Nat} {e:Sq} (h:BdS k e):Bd (4*k+1) (crE e):=(h.a.cross h.b).mono (by omega)
def pathE:Pq->List Pq->List Sq
 | _,[]=>[]
 | p,q::r=>⟨p,q⟩::pathE q r
def endP:Pq->List Pq->Pq
 | p,[]=>p
 | _,q::r=>endP q r
theorem path_len:∀ (p:Pq) (l:List Pq),(pathE p l).length=l.length
 | _,[]=>rfl
 | _,q::r=>by simp [pathE,path_len q r]
theorem path_get:∀ (p:Pq) (l:List Pq) (i:Nat),i < l.length->(pathE p l)[i]?=some ⟨at' (p::l) i,at' (p::l) (i+1)⟩
 | _,[],i,h=>by simp at h
 | p,q::r,0,h=>rfl
 | p,q::r,i+1,h=>by
  have:=path_get q r i (by simpa using h)
  simp only [pathE,List.getElem?_cons_succ,this]
  rfl
theorem end_at:∀ (p:Pq) (l:List Pq),endP p l=at' (p::l) l.length
 | _,[]=>rfl
 | p,q::r=>by
  rw [endP,end_at q r]; rfl
theorem edges_cons (p:Pq) (l:List Pq):edgesQ (p::l)=pathE p l++[⟨endP p l,p⟩]:=by
 apply List.ext_getElem?
 intro i
 unfold edgesQ
 rw [List.getElem?_map]
 rcases Nat.lt_trichotomy i l.length with h | h | h
 ·rw [List.getElem?_append_left (by rw [path_len]; exact h),path_get p l i h,List.getElem?_eq_getElem (by simp; omega)]
  simp only [List.getElem_range,Option.map_some,edgeQ,List.length_cons]
  rw [Nat.mod_eq_of_lt (by omega)]
 ·subst h
  rw [List.getElem?_append_right (by rw [path_len]; exact Nat.le_refl _),path_len,Nat.sub_self,List.getElem?_eq_getElem (by simp)]
  simp only [List.getElem_range,Option.map_some,edgeQ,List.length_cons,Nat.mod_self,end_at]
  rfl
 ·rw [List.getElem?_eq_none (by simp; omega),List.getElem?_eq_none (by rw [List.length_append,path_len,List.length_singleton]; omega)]
  rfl
theorem path_app:∀ (p:Pq) (l:List Pq) (q:Pq) (r:List Pq),pathE p (l++q::r)=pathE p l++⟨endP p l,q⟩::pathE q r
 | _,[],_,_=>rfl
 | p,x::l,q,r=>by
  show ⟨p,x⟩::pathE x (l++q::r)=⟨p,x⟩::(pathE x l++⟨endP x l,q⟩::pathE q r)
  rw [path_app x l q r]
theorem end_app:∀ (p:Pq) (l:List Pq) (q:Pq) (r:List Pq),endP p (l++q::r)=endP q r
 | _,[],_,_=>rfl
 | p,x::l,q,r=>end_app x l q r
theorem edges_app (p:Pq) (l:List Pq) (q:Pq) (r:List Pq):edgesQ (p::l++q::r)=pathE p l++⟨endP p l,q⟩::(pathE q r++[⟨endP q r,p⟩]):=by
 show edgesQ (p::(l++q::r))=_
 rw [edges_cons,path_app,end_app]; simp
/-- Another beginning. -/
theorem edges_rot (l1 l2:List Pq):(edgesQ (l2++l1)).Perm (edgesQ (l1++l2)):=by
 match l1,l2 with
 | [],l2=>simp
 | l1,[]=>simp
 | p::l,q::r=>
  rw [edges_app,edges_app]
  have e1:pathE q r++⟨endP q r,p⟩::(pathE p l++[⟨endP p l,q⟩])=(pathE q r++[⟨endP q r,p⟩])++(pathE p l++[⟨endP p l,q⟩]):=by simp
  have e2:pathE p l++⟨endP p l,q⟩::(pathE q r++[⟨endP q r,p⟩])=(pathE p l++[⟨endP p l,q⟩])++(pathE q r++[⟨endP q r,p⟩]):=by simp
  rw [e1,e2]
  exact List.perm_append_comm
def Sq.rev (s:Sq):Sq:=⟨s.b,s.a⟩
theorem path_rev:∀ (p:Pq) (l:List Pq) (x:Pq),pathE x (l.reverse++[p])=⟨x,endP p l⟩::((pathE p l).map Sq.rev).reverse
 | p,[],x=>rfl
 | p,q::r,x=>by
  have h:=path_rev q r x
  rw [List.reverse_cons,List.append_assoc]
  show pathE x (r.reverse++q::[p])=_
  rw [path_app]
  have h2:pathE x (r.reverse++[q])=pathE x r.reverse++[⟨endP x r.reverse,q⟩]:=path_app x r.reverse q []
  rw [h2] at h
  show pathE x r.reverse++⟨endP x r.reverse,q⟩::[⟨q,p⟩]=⟨x,endP q r⟩::(((⟨p,q⟩:Sq)::pathE q r).map Sq.rev).reverse
  rw [List.map_cons,List.reverse_cons,<-List.cons_append,<-h]
  simp [Sq.rev]
theorem end_snoc (x:Pq) (l:List Pq) (p:Pq):endP x (l++[p])=p:=end_app x l p []
/-- The opposite order. -/
theorem edges_rev (l:List Pq):(edgesQ l.reverse).Perm ((edgesQ l).map Sq.rev):=by
 match l with
 | []=>exact .refl _
 | p::l=>
  rw [List.reverse_cons]
  have h1:(edgesQ (l.reverse++[p])).Perm (edgesQ ([p]++l.reverse)):=edges_rot [p] l.reverse
  refine h1.trans ?_
  show (edgesQ (p::l.reverse)).Perm _
  rw [edges_cons,edges_cons]
  have h2:pathE p l.reverse++[⟨endP p l.reverse,p⟩]=pathE p (l.reverse++[p]):=(path_app p l.reverse p []).symm
  rw [h2,path_rev,List.map_append]
  have h3:([⟨endP p l,p⟩]:List Sq).map Sq.rev=[⟨p,endP p l⟩]:=rfl
  rw [h3]
  refine List.Perm.trans ?_ List.perm_append_comm
  exact List.Perm.cons _ (List.reverse_perm _)
/-- Cut between two vertices. -/
theorem edges_cut (p:Pq) (l:List Pq) (q:Pq) (r:List Pq):(edgesQ (p::l++[q])++edgesQ (q::r++[p])).Perm (edgesQ (p::l++q::r)++[⟨q,p⟩,⟨p,q⟩]):=by
 have h1:=edges_app p l q []
 have h2:=edges_app q r p []
 rw [h1,h2,edges_app]
 have e1:pathE p l++(⟨endP p l,q⟩:Sq)::([]++[(⟨q,p⟩:Sq)])++(pathE q r++(⟨endP q r,p⟩:Sq)::([]++[(⟨p,q⟩:Sq)]))=(pathE p l++[⟨endP p l,q⟩])++([⟨q,p⟩]++(pathE q r++[⟨endP q r,p⟩]))++[⟨p,q⟩]:=by simp
 have e2:pathE p l++⟨endP p l,q⟩::(pathE q r++[⟨endP q r,p⟩])++[⟨q,p⟩,⟨p,q⟩]=(pathE p l++[⟨endP p l,q⟩])++((pathE q r++[⟨endP q r,p⟩])++[⟨q,p⟩])++[⟨p,q⟩]:=by simp
 show (pathE p l++(⟨endP p l,q⟩:Sq)::([]++[(⟨q,p⟩:Sq)])++(pathE q r++(⟨endP q r,p⟩:Sq)::([]++[(⟨p,q⟩:Sq)]))).Perm _
 rw [e1,e2]
 exact (List.Perm.append_left _ List.perm_append_comm).append_right _
theorem sumE_cons (f:Sq->Rat) (e:Sq) (es:List Sq):sumE f (e::es)=f e+sumE f es:=by
 have key:∀ (es:List Sq) (s t:Rat),es.foldl (fun s e=>s+f e) (s+t)=s+es.foldl (fun s e=>s+f e) t:=by
  intro es
  induction es with
  | nil=>intro s t; rfl
  | cons e es ih=>intro s t; rw [List.foldl_cons,List.foldl_cons,Rat.add_assoc,ih]
 unfold sumE
 rw [List.foldl_cons,Rat.zero_add]
 have:=key es (f e) 0
 rwa [Rat.add_zero] at this
theorem sumE_perm (f:Sq->Rat) {es es':List Sq} (h:es.Perm es'):sumE f es=sumE f es':=by
 induction h with
 | nil=>rfl
 | cons e _ ih=>rw [sumE_cons,sumE_cons,ih]
 | swap a b l=>rw [sumE_cons,sumE_cons,sumE_cons,sumE_cons]; grind
 | trans _ _ h1 h2=>exact h1.trans h2
theorem sumE_app (f:Sq->Rat):∀ (es es':List Sq),sumE f (es++es')=sumE f es+sumE f es'
 | [],es'=>by rw [List.nil_append]; show _=0+_; rw [Rat.zero_add]
 | e::es,es'=>by rw [List.cons_append,sumE_cons,sumE_cons,sumE_app f es es']; grind
theorem area_rot (l1 l2:List Pq):areaQ (l2++l1)=areaQ (l1++l2):=by unfold areaQ; rw [sumE_perm _ (edges_rot l1 l2)]
theorem area_cut (p:Pq) (l:List Pq) (q:Pq) (r:List Pq):areaQ (p::l++[q])+areaQ (q::r++[p])=areaQ (p::l++q::r):=by
 have h:=sumE_perm crE (edges_cut p l q r)
 rw [sumE_app,sumE_app] at h
 have h2:sumE crE [⟨q,p⟩,⟨p,q⟩]=0:=by
  rw [sumE_cons,sumE_cons]
  show _+(_+0)=0
  simp only [crE,Pq.cross]; grind
 rw [h2] at h
 unfold areaQ
 rw [Rat.div_def,Rat.div_def,Rat.div_def]; grind
/-- A translation. -/
theorem path_map (v:Pq):∀ (p:Pq) (l:List Pq),sumE crE (pathE (p.add v) (l.map (·.add v)))=sumE crE (pathE p l)+(p.sub (endP p l)).cross v
 | p,[]=>by
  show (0:Rat)=0+_
  simp only [endP,Pq.cross,Pq.sub]; grind
 | p,q::r=>by
  have h:=path_map v q r
  simp only [List.map_cons,pathE,endP,sumE_cons]
  rw [h]
  simp only [crE,Pq.cross,Pq.sub,Pq.add]; grind
theorem end_map (v:Pq):∀ (p:Pq) (l:List Pq),endP (p.add v) (l.map (·.add v))=(endP p l).add v
 | p,[]=>rfl
 | p,q::r=>end_map v q r
theorem area_map (v:Pq) (l:List Pq):areaQ (l.map (·.add v))=areaQ l:=by
 match l with
 | []=>rfl
 | p::l=>
  unfold areaQ
  rw [List.map_cons,edges_cons,edges_cons,sumE_app,sumE_app,path_map,end_map]
  have:∀ x y:Rat,x=y->x / ((2:Int):Rat)=y / ((2:Int):Rat):=fun x y h=>by rw [h]
  apply this
  rw [sumE_cons,sumE_cons]
  show _+(_+0)=_+(_+0)
  simp only [crE,Pq.cross,Pq.sub,Pq.add]; grind
theorem parE_from (p:Pq):∀ (es:List Sq) (b:Bool),es.foldl (fun b e=>if oddE p e=true then !b else b) b=(b != parE p es)
 | [],b=>by show b=(b != false); cases b<;>rfl
 | e::es,b=>by
  have h1:=parE_from p es (if oddE p e=true then !b else b)
  have h2:=parE_from p es (if oddE p e=true then !false else false)
  show es.foldl _ (if oddE p e=true then !b else b)=(b != es.foldl _ (if oddE p e=true then !false else false))
  rw [h1,h2]
  cases oddE p e<;>cases b<;>cases parE p es<;>rfl
theorem parE_cons (p:Pq) (e:Sq) (es:List Sq):parE p (e::es)=(oddE p e != parE p es):=by
 have h:=parE_from p es (if oddE p e=true then !false else false)
 show es.foldl _ (if oddE p e=true then !false else false)=_
 rw [h]
 cases oddE p e<;>rfl
theorem parE_app (p:Pq) (es es':List Sq):parE p (es++es')=(parE p es != parE p es'):=by
 have h:=parE_from p es' (parE p es)
 rw [<-h]
 unfold parE
 rw [List.foldl_append]
end Go.Proofs.YtkipmmiiackdaaaGreat.Sx
