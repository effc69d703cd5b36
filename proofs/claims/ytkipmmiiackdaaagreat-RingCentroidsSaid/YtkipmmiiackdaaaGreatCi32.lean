/- Part 32 of what the statement needs: an executor of Go texts, arithmetic, and contracts of the functions that are called. -/
import Derived.Test.YtkipmmiiackdaaaGreatCi11
import Derived.Test.YtkipmmiiackdaaaGreatCi26
import Derived.Test.YtkipmmiiackdaaaGreatCi27
import Derived.Test.YtkipmmiiackdaaaGreatCi30
import Derived.Test.YtkipmmiiackdaaaGreatCi31
set_option linter.unusedSimpArgs false
set_option linter.unusedVariables false
set_option maxHeartbeats 16000000
set_option maxRecDepth 100000
namespace Go.Proofs.YtkipmmiiackdaaaGreat.Sx
open Env (std)
theorem sumE_add (f g:Sq->Rat):∀ es:List Sq,sumE (fun e=>f e+g e) es=sumE f es+sumE g es
 | []=>by show (0:Rat)=0+0; grind
 | e::es=>by rw [sumE_cons,sumE_cons,sumE_cons,sumE_add f g es]; grind
theorem sumE_mul (c:Rat) (f:Sq->Rat):∀ es:List Sq,sumE (fun e=>c*f e) es=c*sumE f es
 | []=>by show (0:Rat)=c*0; grind
 | e::es=>by rw [sumE_cons,sumE_cons,sumE_mul c f es]; grind
theorem sumP_from (f:Sq->Pq):∀ (es:List Sq) (s:Pq),es.foldl (fun s e=>s.add (f e)) s=s.add ⟨sumE (fun e=>(f e).x) es,sumE (fun e=>(f e).y) es⟩
 | [],s=>Pq.ext' (by show s.x=s.x+0; grind) (by show s.y=s.y+0; grind)
 | e::es,s=>by
  show es.foldl _ (s.add (f e))=_
  rw [sumP_from f es]
  refine Pq.ext' ?_ ?_
  ·show s.x+(f e).x+_=s.x+sumE (fun e=>(f e).x) (e::es); rw [sumE_cons]; grind
  ·show s.y+(f e).y+_=s.y+sumE (fun e=>(f e).y) (e::es); rw [sumE_cons]; grind
theorem sumP_eq (f:Sq->Pq) (es:List Sq):sumP f es=⟨sumE (fun e=>(f e).x) es,sumE (fun e=>(f e).y) es⟩:=by
 unfold sumP
 rw [sumP_from]
 exact Pq.ext' (by show 0+_=_; grind) (by show 0+_=_; grind)
def cenS (l:List Pq):Pq:=sumP centE (edgesQ l)
theorem cenS_x (l:List Pq):(cenS l).x=sumE (fun e=>(centE e).x) (edgesQ l):=by unfold cenS; rw [sumP_eq]
theorem cenS_y (l:List Pq):(cenS l).y=sumE (fun e=>(centE e).y) (edgesQ l):=by unfold cenS; rw [sumP_eq]
theorem two_area (l:List Pq):sumE crE (edgesQ l)=2*areaQ l:=by
 unfold areaQ
 have:((2:Int):Rat) ≠ 0:=by decide
 have e:=Rat.div_mul_cancel (a:=sumE crE (edgesQ l)) this
 grind
theorem cent_of {l:List Pq} (h:areaQ l ≠ 0):(6*areaQ l)*(centQ l).x=(cenS l).x/\(6*areaQ l)*(centQ l).y=(cenS l).y:=by
 have e:((6:Int):Rat)*areaQ l ≠ 0:=by
  intro c
  rcases Rat.mul_eq_zero.1 c with g | g
  ·exact absurd g (by decide)
  ·exact h g
 have e2:=Rat.div_mul_cancel (a:=((1:Int):Rat)) e
 have e3:(((1:Int):Rat) / (((6:Int):Rat)*areaQ l))*(((6:Int):Rat)*areaQ l)=1:=e2
 have ex:(centQ l).x=(cenS l).x*(((1:Int):Rat) / (((6:Int):Rat)*areaQ l)):=rfl
 have ey:(centQ l).y=(cenS l).y*(((1:Int):Rat) / (((6:Int):Rat)*areaQ l)):=rfl
 obtain ⟨w,hw⟩:∃ w,w=((1:Int):Rat) / (((6:Int):Rat)*areaQ l):=⟨_,rfl⟩
 rw [<-hw] at e3 ex ey
 have e6:((6:Int):Rat)=6:=rfl
 rw [e6] at e3
 constructor
 ·rw [ex]; grind
 ·rw [ey]; grind
theorem cent_eq {l:List Pq} (h:areaQ l ≠ 0) {c:Pq} (hx:(6*areaQ l)*c.x=(cenS l).x) (hy:(6*areaQ l)*c.y=(cenS l).y):centQ l=c:=by
 obtain ⟨e1,e2⟩:=cent_of h
 have g:(6*areaQ l) ≠ 0:=by grind
 refine Pq.ext' ?_ ?_
 ·have:(6*areaQ l)*((centQ l).x - c.x)=0:=by grind
  rcases Rat.mul_eq_zero.1 this with k | k<;>grind
 ·have:(6*areaQ l)*((centQ l).y - c.y)=0:=by grind
  rcases Rat.mul_eq_zero.1 this with k | k<;>grind
theorem cenS_perm {a b:List Pq} (h:(edgesQ a).Perm (edgesQ b)):cenS a=cenS b:=
 Pq.ext' (by rw [cenS_x,cenS_x,sumE_perm _ h]) (by rw [cenS_y,cenS_y,sumE_perm _ h])
theorem cent_rot {a b:List Pq} (h:IsRot a b):centQ b=centQ a:=by
 have e:=h.area
 obtain ⟨x,y,rfl,rfl⟩:=h
 have h2:cenS (y++x)=cenS (x++y):=cenS_perm (edges_rot x y)
 unfold centQ
 rw [e]
 show Pq.scale (cenS _) _=Pq.scale (cenS _) _
 rw [h2]
/-- The centroid moves with the ring. -/
theorem path_cen (v:Pq):∀ (p:Pq) (l:List Pq),
  sumE (fun e=>(centE e).x) (pathE (p.add v) (l.map (·.add v)))=sumE (fun e=>(centE e).x) (pathE p l)+2*v.x*sumE crE (pathE p l)+2*v.x*((p.sub (endP p l)).cross v)+(p.x*p.x - (endP p l).x*(endP p l).x)*v.y - v.x*(p.x*p.y - (endP p l).x*(endP p l).y)+v.x*sumE crE (pathE p l) /\
  sumE (fun e=>(centE e).y) (pathE (p.add v) (l.map (·.add v)))=sumE (fun e=>(centE e).y) (pathE p l)+2*v.y*sumE crE (pathE p l)+2*v.y*((p.sub (endP p l)).cross v) - (p.y*p.y - (endP p l).y*(endP p l).y)*v.x+v.y*(p.x*p.y - (endP p l).x*(endP p l).y)+v.y*sumE crE (pathE p l)
 | p,[]=>by
  constructor
  ·show (0:Rat)=0+2*v.x*0+2*v.x*((p.sub p).cross v)+(p.x*p.x - p.x*p.x)*v.y - v.x*(p.x*p.y - p.x*p.y)+v.x*0
   simp only [Pq.cross,Pq.sub]; grind
  ·show (0:Rat)=0+2*v.y*0+2*v.y*((p.sub p).cross v) - (p.y*p.y - p.y*p.y)*v.x+v.y*(p.x*p.y - p.x*p.y)+v.y*0
   simp only [Pq.cross,Pq.sub]; grind
 | p,q::r=>by
  obtain ⟨h1,h2⟩:=path_cen v q r
  constructor
  ·show sumE _ (⟨p.add v,q.add v⟩::pathE (q.add v) (r.map (·.add v)))=sumE _ (⟨p,q⟩::pathE q r)+2*v.x*sumE crE (⟨p,q⟩::pathE q r)+2*v.x*((p.sub (endP q r)).cross v)+(p.x*p.x - (endP q r).x*(endP q r).x)*v.y - v.x*(p.x*p.y - (endP q r).x*(endP q r).y)+v.x*sumE crE (⟨p,q⟩::pathE q r)
   rw [sumE_cons,sumE_cons,sumE_cons,h1]
   simp only [centE,crE,Pq.cross,Pq.sub,Pq.add,Pq.scale]
   grind
  ·show sumE _ (⟨p.add v,q.add v⟩::pathE (q.add v) (r.map (·.add v)))=sumE _ (⟨p,q⟩::pathE q r)+2*v.y*sumE crE (⟨p,q⟩::pathE q r)+2*v.y*((p.sub (endP q r)).cross v) - (p.y*p.y - (endP q r).y*(endP q r).y)*v.x+v.y*(p.x*p.y - (endP q r).x*(endP q r).y)+v.y*sumE crE (⟨p,q⟩::pathE q r)
   rw [sumE_cons,sumE_cons,sumE_cons,h2]
   simp only [centE,crE,Pq.cross,Pq.sub,Pq.add,Pq.scale]
   grind
theorem cenS_map (v:Pq) (l:List Pq):(cenS (l.map (·.add v))).x=(cenS l).x+3*v.x*sumE crE (edgesQ l)/\(cenS (l.map (·.add v))).y=(cenS l).y+3*v.y*sumE crE (edgesQ l):=by
 cases l with
 | nil=>
  constructor
  ·show (0:Rat)=0+3*v.x*0; grind
  ·show (0:Rat)=0+3*v.y*0; grind
 | cons p r=>
  obtain ⟨h1,h2⟩:=path_cen v p r
  have he:=end_map v p r
  rw [cenS_x,cenS_x,cenS_y,cenS_y]
  rw [List.map_cons,edges_cons,edges_cons,he]
  constructor
  ·rw [sumE_app,sumE_app,sumE_app,h1,sumE_cons,sumE_cons,sumE_cons]
   show _+(_+(0:Rat))=_+(_+(0:Rat))+3*v.x*(_+(_+(0:Rat)))
   simp only [centE,crE,Pq.cross,Pq.sub,Pq.add,Pq.scale]
   grind
  ·rw [sumE_app,sumE_app,sumE_app,h2,sumE_cons,sumE_cons,sumE_cons]
   show _+(_+(0:Rat))=_+(_+(0:Rat))+3*v.y*(_+(_+(0:Rat)))
   simp only [centE,crE,Pq.cross,Pq.sub,Pq.add,Pq.scale]
   grind
theorem cent_map {l:List Pq} (h:areaQ l ≠ 0) (v:Pq):centQ (l.map (·.add v))=(centQ l).add v:=by
 obtain ⟨e1,e2⟩:=cent_of h
 obtain ⟨e3,e4⟩:=cenS_map v l
 have ea:=area_map v l
 have et:=two_area l
 refine cent_eq (by rw [ea]; exact h) ?_ ?_
 ·rw [ea,e3,et,<-e1]
  show 6*areaQ l*((centQ l).x+v.x)=_
  grind
 ·rw [ea,e4,et,<-e2]
  show 6*areaQ l*((centQ l).y+v.y)=_
  grind
/-- Cut by a segment between two vertices: both parts, weighted by their areas. -/
theorem cen_cut (p:Pq) (l:List Pq) (q:Pq) (r:List Pq):(cenS (p::l++[q])).x+(cenS (q::r++[p])).x=(cenS (p::l++q::r)).x/\(cenS (p::l++[q])).y+(cenS (q::r++[p])).y=(cenS (p::l++q::r)).y:=by
 have h:=edges_cut p l q r
 constructor
 ·rw [cenS_x,cenS_x,cenS_x,<-sumE_app,sumE_perm _ h,sumE_app,sumE_cons,sumE_cons]
  show _+(_+(_+(0:Rat)))=_
  simp only [centE,crE,Pq.cross,Pq.add,Pq.scale]
  grind
 ·rw [cenS_y,cenS_y,cenS_y,<-sumE_app,sumE_perm _ h,sumE_app,sumE_cons,sumE_cons]
  show _+(_+(_+(0:Rat)))=_
  simp only [centE,crE,Pq.cross,Pq.add,Pq.scale]
  grind
theorem cent_cut {p:Pq} {l:List Pq} {q:Pq} {r:List Pq} (h1:areaQ (p::l++[q]) ≠ 0) (h2:areaQ (q::r++[p]) ≠ 0) (h3:areaQ (p::l++q::r) ≠ 0) :
  ((centQ (p::l++[q])).scale (areaQ (p::l++[q]))).add ((centQ (q::r++[p])).scale (areaQ (q::r++[p])))=(centQ (p::l++q::r)).scale (areaQ (p::l++q::r)):=by
 obtain ⟨a1,a2⟩:=cent_of h1
 obtain ⟨b1,b2⟩:=cent_of h2
 obtain ⟨c1,c2⟩:=cent_of h3
 obtain ⟨d1,d2⟩:=cen_cut p l q r
 refine Pq.ext' ?_ ?_
 ·show (centQ _).x*_+(centQ _).x*_=(centQ _).x*_
  grind
 ·show (centQ _).y*_+(centQ _).y*_=(centQ _).y*_
  grind
/-- An affine function. -/
def fv (al be ga:Rat) (q:Pq):Rat:=al*q.x+be*q.y+ga
def teE (al be ga:Rat) (e:Sq):Rat:=crE e*(fv al be ga e.a+fv al be ga e.b+ga)
theorem te_sum (al be ga:Rat) (l:List Pq):sumE (teE al be ga) (edgesQ l)=al*(cenS l).x+be*(cenS l).y+3*ga*sumE crE (edgesQ l):=by
 rw [cenS_x,cenS_y,<-sumE_mul,<-sumE_mul,<-sumE_mul,<-sumE_add,<-sumE_add]
 congr 1
 funext e
 simp only [teE,fv,centE,crE,Pq.cross,Pq.add,Pq.scale]
 grind
theorem te_step (al be ga:Rat) (p w0 w1:Pq) (r:List Pq):sumE (teE al be ga) (edgesQ (p::w0::w1::r))=sumE (teE al be ga) (edgesQ (p::w1::r))+crs p w0 w1*(fv al be ga p+fv al be ga w0+fv al be ga w1):=by
 rw [edges_cons,edges_cons]
 show sumE _ (⟨p,w0⟩::⟨w0,w1⟩::(pathE w1 r++[⟨endP w1 r,p⟩]))=sumE _ (⟨p,w1⟩::(pathE w1 r++[⟨endP w1 r,p⟩]))+_
 rw [sumE_cons,sumE_cons,sumE_cons]
 simp only [teE,fv,crE,crs,Pq.cross,Pq.sub]
 grind
theorem te_pos {al be ga:Rat} {p:Pq}:∀ (l:List Pq),Tri (p::l)->(∀ q ∈ p::l,0<=fv al be ga q)->(∀ x y z,0 < crs x y z->0<=fv al be ga x->0<=fv al be ga y->0<=fv al be ga z->0 < fv al be ga x+fv al be ga y+fv al be ga z)->0<=sumE (teE al be ga) (edgesQ (p::l))/\(2<=l.length->0 < sumE (teE al be ga) (edgesQ (p::l)))
 | [],_,_,_=>by
  refine ⟨?_,fun h=>by simp at h⟩
  rw [edges_cons]
  show 0<=sumE _ [⟨p,p⟩]
  rw [sumE_cons]
  show 0<=_+(0:Rat)
  simp only [teE,crE,Pq.cross]; grind
 | [w],_,_,_=>by
  refine ⟨?_,fun h=>by simp at h⟩
  rw [edges_cons]
  show 0<=sumE _ [⟨p,w⟩,⟨w,p⟩]
  rw [sumE_cons,sumE_cons]
  show 0<=_+(_+(0:Rat))
  simp only [teE,crE,fv,Pq.cross]; grind
 | w0::w1::r,ht,hf,hz=>by
  have ih:=te_pos (al:=al) (be:=be) (ga:=ga) (p:=p) (w1::r) (ht.gap 1) (fun q hq=>hf q (by
   rcases List.mem_cons.1 hq with rfl | hq
   ·simp
   ·simp [List.mem_cons.1 hq])) hz
  have hc:0 < crs p w0 w1:=ht 0 1 2 (by omega) (by omega) (by simp)
  have hp:=hz p w0 w1 hc (hf p (by simp)) (hf w0 (by simp)) (hf w1 (by simp))
  have:=Rat.mul_pos hc hp
  rw [te_step]
  refine ⟨?_,fun _=>?_⟩<;>grind
theorem tri_area {L:List Pq} (h:Tri L) (h3:3<=L.length):0 < areaQ L:=by
 cases L with
 | nil=>simp at h3
 | cons p l=>
  have:=(te_pos (al:=0) (be:=0) (ga:=1) l h (fun q _=>by unfold fv; grind) (fun x y z _ _ _ _=>by unfold fv; grind)).2 (by simpa using h3)
  rw [te_sum,two_area] at this
  grind
/-- An affine function that is nowhere negative on the vertices is positive at the centroid. -/
theorem cent_pos {L:List Pq} (h:Tri L) (h3:3<=L.length) {al be ga:Rat} (hne:¬ (al=0/\be=0)) (hf:∀ q ∈ L,0<=fv al be ga q):0 < fv al be ga (centQ L):=by
 have ha:=tri_area h h3
 obtain ⟨e1,e2⟩:=cent_of (l:=L) (by grind)
 have hz:∀ x y z,0 < crs x y z->0<=fv al be ga x->0<=fv al be ga y->0<=fv al be ga z->0 < fv al be ga x+fv al be ga y+fv al be ga z:=by
  intro x y z hc hx hy hz
  refine Decidable.byContradiction fun c=>?_
  have zx:fv al be ga x=0:=by grind
  have zy:fv al be ga y=0:=by grind
  have zz:fv al be ga z=0:=by grind
  have k1:al*crs x y z=0:=by
   simp only [fv] at zx zy zz; simp only [crs,Pq.cross,Pq.sub]; grind
  have k2:be*crs x y z=0:=by
   simp only [fv] at zx zy zz; simp only [crs,Pq.cross,Pq.sub]; grind
  apply hne
  constructor
  ·rcases Rat.mul_eq_zero.1 k1 with g | g<;>grind
  ·rcases Rat.mul_eq_zero.1 k2 with g | g<;>grind
 cases L with
 | nil=>simp at h3
 | cons p l=>
  have:=(te_pos (al:=al) (be:=be) (ga:=ga) l h hf hz).2 (by simpa using h3)
  rw [te_sum,two_area,<-e1,<-e2] at this
  obtain ⟨A,hA⟩:∃ A,A=areaQ (p::l):=⟨_,rfl⟩
  obtain ⟨c,hc⟩:∃ c,c=centQ (p::l):=⟨_,rfl⟩
  rw [<-hA,<-hc] at this
  rw [<-hA] at ha
  rw [<-hc]
  have e:al*(6*A*c.x)+be*(6*A*c.y)+3*ga*(2*A)=(6*A)*fv al be ga c:=by unfold fv; grind
  rw [e] at this
  refine Decidable.byContradiction fun g=>?_
  have:=Rat.mul_nonneg (show 0<=6*A by grind) (show 0 <= - fv al be ga c by grind)
  grind
theorem edge_of {L:List Pq} {e:Sq} (he:e ∈ edgesQ L):∃ i,i < L.length/\e=edgeQ L i:=by
 unfold edgesQ at he
 obtain ⟨i,hi,rfl⟩:=List.mem_map.1 he
 exact ⟨i,by simpa using hi,rfl⟩
theorem Tri.left {L:List Pq} (h:Tri L) (h3:3<=L.length) {e:Sq} (he:e ∈ edgesQ L):∀ q ∈ L,0<=crs e.a e.b q:=by
 obtain ⟨i,hi,rfl⟩:=edge_of he
 intro q hq
 obtain ⟨k,hk,rfl⟩:=mem_at.1 hq
 by_cases c1:k=i
 ·subst c1
  have:crs (edgeQ L k).a (edgeQ L k).b (at' L k)=0:=crs_on_a _ _
  grind
 ·by_cases c2:k=(i+1) % L.length
  ·have:crs (edgeQ L i).a (edgeQ L i).b (at' L k)=0:=by rw [c2]; exact crs_on_b _ _
   grind
  ·exact Rat.le_of_lt (h.edge hi hk c1 c2)
theorem cent_left {L:List Pq} (h:Tri L) (h3:3<=L.length) {e:Sq} (he:e ∈ edgesQ L):0 < crs e.a e.b (centQ L):=by
 have hne:=(h.smp h3).nd e he
 have hl:=h.left h3 he
 have ef:∀ q,crs e.a e.b q=fv (e.a.y - e.b.y) (e.b.x - e.a.x) ((e.a.x - e.b.x)*e.a.y - (e.a.y - e.b.y)*e.a.x) q:=fun q=>by
  simp only [crs,Pq.cross,Pq.sub,fv]; grind
 rw [ef]
 refine cent_pos h h3 (fun c=>hne (Pq.ext' (by grind) (by grind))) (fun q hq=>by rw [<-ef]; exact hl q hq)
/-- Of two edges that go up past a height, neither lies beyond the other. -/
theorem one_up {a b a' b':Pq} {h:Rat} (h1:a.y<=h) (h2:h < b.y) (h3:a'.y<=h) (h4:h < b'.y) (k1:0 < crs a b a') (k2:0 < crs a b b') (k3:0 < crs a' b' a) (k4:0 < crs a' b' b):False:=by
 have g1:=Rat.mul_pos (show 0 < b'.y - h by grind) k1
 have g2:=Rat.mul_nonneg (show 0<=h - a'.y by grind) (Rat.le_of_lt k2)
 have g3:=Rat.mul_pos (show 0 < b.y - h by grind) k3
 have g4:=Rat.mul_nonneg (show 0<=h - a.y by grind) (Rat.le_of_lt k4)
 have e:(b'.y - h)*crs a b a'+(h - a'.y)*crs a b b'+((b.y - h)*crs a' b' a+(h - a.y)*crs a' b' b)=0:=by
  simp only [crs,Pq.cross,Pq.sub]; grind
 grind
theorem mono_path {P:Pq->Prop}:∀ {p:Pq} {l:List Pq},(∀ e ∈ pathE p l,P e.b->P e.a)->(∀ q ∈ p::l,P q->P p)/\(P (endP p l)->∀ q ∈ p::l,P q)
 | p,[],_=>⟨fun q hq h=>by rw [<-List.mem_singleton.1 hq]; exact h,fun h q hq=>by rw [List.mem_singleton.1 hq]; exact h⟩
 | p,x::l,h=>by
  obtain ⟨i1,i2⟩:=mono_path (P:=P) (p:=x) (l:=l) (fun e he=>h e (List.mem_cons_of_mem _ he))
  have h0:P x->P p:=h ⟨p,x⟩ List.mem_cons_self
  constructor
  ·intro q hq hp
   rcases List.mem_cons.1 hq with rfl | hq
   ·exact hp
   ·exact h0 (i1 q hq hp)
  ·intro he q hq
   have hx:=i2 he
   rcases List.mem_cons.1 hq with rfl | hq
   ·exact h0 (hx x (by simp))
   ·exact hx q hq
theorem mono_all {P:Pq->Prop} {L:List Pq} (h:∀ e ∈ edgesQ L,P e.b->P e.a) {q:Pq} (hq:q ∈ L) (hp:P q):∀ q ∈ L,P q:=by
 cases L with
 | nil=>cases hq
 | cons p l=>
  rw [edges_cons] at h
  obtain ⟨i1,i2⟩:=mono_path (P:=P) (p:=p) (l:=l) (fun e he=>h e (List.mem_append_left _ he))
  exact i2 (h ⟨endP p l,p⟩ (by simp) (i1 q hq hp))
theorem odd_one {p:Pq} {es1 es2:List Sq} {e:Sq} (h1:∀ f ∈ es1,oddE p f=false) (h2:∀ f ∈ es2,oddE p f=false) (he:oddE p e=true):parE p (es1++e::es2)=true:=by
 have z:∀ es:List Sq,(∀ f ∈ es,oddE p f=false)->parE p es=false:=by
  intro es
  induction es with
  | nil=>intro _; rfl
  | cons f es ih=>intro h; rw [parE_cons,h f (by simp),ih (fun g hg=>h g (List.mem_cons_of_mem _ hg))]; rfl
 rw [parE_app,parE_cons,z es1 h1,z es2 h2,he]; rfl
/-- A point on the left of all edges, lower than one vertex and not lower than another, lies within. -/
theorem side_in {L:List Pq} (h:Tri L) (h3:3<=L.length) {c:Pq} (hc:∀ e ∈ edgesQ L,0 < crs e.a e.b c) (hu:∃ q ∈ L,c.y < q.y) (hd:∃ q ∈ L,¬ c.y < q.y):sideQ L c=1:=by
 have hon:onE L c=false:=by
  unfold onE
  rw [List.any_eq_false]
  intro e he g
  have:=hc e he
  have:=on_zero ((on_iff e c).1 g)
  grind
 have hodd:∀ e ∈ edgesQ L,oddE c e=true->e.a.y<=c.y/\c.y < e.b.y:=by
  intro e he ho
  have:=hc e he
  rcases oddE_iff.1 ho with ⟨_,_,g⟩ | ⟨g1,g2,_⟩
  ·exfalso
   have e1:crs e.b e.a c = - crs e.a e.b c:=by simp only [crs,Pq.cross,Pq.sub]; grind
   rw [e1] at g; grind
  ·exact ⟨by grind,g2⟩
 have hex:∃ e ∈ edgesQ L,oddE c e=true:=by
  refine Decidable.byContradiction fun hno=>?_
  obtain ⟨q,hq,hq2⟩:=hu
  obtain ⟨r,hr,hr2⟩:=hd
  refine hr2 (mono_all (P:=fun q=>c.y < q.y) (fun e he hb=>?_) hq hq2 r hr)
  refine Decidable.byContradiction fun ha=>hno ⟨e,he,?_⟩
  exact oddE_iff.2 (.inr ⟨ha,hb,hc e he⟩)
 obtain ⟨e,he,ho⟩:=hex
 have hpw:(edgesQ L).Pairwise (fun e f=>¬ (oddE c e=true/\oddE c f=true)):=by
  rw [List.pairwise_iff_getElem]
  intro i k hi hk hik
  rw [edges_len] at hi hk
  rw [edges_get hi,edges_get hk]
  rintro ⟨o1,o2⟩
  obtain ⟨u1,u2⟩:=hodd _ (edge_mem hi) o1
  obtain ⟨v1,v2⟩:=hodd _ (edge_mem hk) o2
  have n1:k ≠ (i+1) % L.length:=by
   intro g
   have:(edgeQ L k).a=(edgeQ L i).b:=by show at' L k=at' L ((i+1) % L.length); rw [<-g]
   rw [this] at v1; grind
  have n2:i ≠ (k+1) % L.length:=by
   intro g
   have:(edgeQ L i).a=(edgeQ L k).b:=by show at' L i=at' L ((k+1) % L.length); rw [<-g]
   rw [this] at u1; grind
  have m1:(i+1) % L.length ≠ (k+1) % L.length:=by
   by_cases c1:k+1=L.length
   ·rw [c1,Nat.mod_self,Nat.mod_eq_of_lt (by omega)]; omega
   ·rw [Nat.mod_eq_of_lt (by omega),Nat.mod_eq_of_lt (by omega)]; omega
  have l1:(i+1) % L.length < L.length:=Nat.mod_lt _ (by omega)
  have l2:(k+1) % L.length < L.length:=Nat.mod_lt _ (by omega)
  exact one_up u1 u2 v1 v2 (h.edge hi hk (by omega) n1) (h.edge hi l2 (fun g=>n2 g.symm) (fun g=>m1 g.symm)) (h.edge hk hi (by omega) n2) (h.edge hk l1 (fun g=>n1 g.symm) m1)
 obtain ⟨s1,s2,es⟩:=List.append_of_mem he
 rw [es,List.pairwise_append,List.pairwise_cons] at hpw
 have ht:oddQ L c=true:=by
  unfold oddQ
  rw [es]
  refine odd_one (fun f hf=>?_) (fun f hf=>?_) ho
  ·cases g:oddE c f with
   | false=>rfl
   | true=>exact absurd ⟨g,ho⟩ (hpw.2.2 f hf e (by simp))
  ·cases g:oddE c f with
   | false=>rfl
   | true=>exact absurd ⟨ho,g⟩ (hpw.2.1.1 f hf)
 unfold sideQ
 rw [hon,ht]; rfl
theorem cent_in {L:List Pq} (h:Tri L) (h3:3<=L.length):sideQ L (centQ L)=1:=by
 refine side_in h h3 (fun e he=>cent_left h h3 he) ?_ ?_
 ·refine Decidable.byContradiction fun hno=>?_
  have:=cent_pos h h3 (al:=0) (be := -1) (ga:=(centQ L).y) (by decide) (fun q hq=>by
   have:¬ (centQ L).y < q.y:=fun g=>hno ⟨q,hq,g⟩
   unfold fv; grind)
  unfold fv at this; grind
 ·refine Decidable.byContradiction fun hno=>?_
  have:=cent_pos h h3 (al:=0) (be:=1) (ga := -(centQ L).y) (by decide) (fun q hq=>by
   have:(centQ L).y < q.y:=Decidable.byContradiction fun g=>hno ⟨q,hq,g⟩
   unfold fv; grind)
  unfold fv at this; grind
/-- A convex ring, its vertices by their indices. -/
theorem tn_of {A:List Pq} (h3:3<=A.length) (h:∀ i,i < A.length->0 < crs (at' A i) (at' A ((i+1) % A.length)) (at' A ((i+2) % A.length))):Tn A:=by
 rintro g r ⟨a,b,e1,e2⟩
 obtain ⟨n,hn⟩:∃ n,n=A.length:=⟨_,rfl⟩
 rw [<-hn] at h h3
 have hl:(a++b).length=n:=by rw [<-e1,hn]
 have hl2:(g::r).length=n:=by rw [e2,List.length_append,Nat.add_comm,<-List.length_append,hl]
 have hat:∀ i,i < n->at' (g::r) i=at' A ((a.length+i) % n):=fun i hi=>by
  have:=at_rot a b (i:=i) (by omega)
  rw [hl,<-e1,<-e2] at this; exact this
 cases r with
 | nil=>simp at hl2; omega
 | cons c r=>
  have et:turnV g (c::r)=crs (at' (g::c::r) (n - 1)) (at' (g::c::r) 0) (at' (g::c::r) 1):=by
   show crs (endP g (c::r)) g c=_
   rw [end_at]
   have:(c::r).length=n - 1:=by simp at hl2 ⊢; omega
   rw [this]; rfl
  rw [et,hat (n - 1) (by omega),hat 0 (by omega),hat 1 (by omega)]
  have:=h ((a.length+(n - 1)) % n) (Nat.mod_lt _ (by omega))
  rw [Nat.mod_add_mod,Nat.mod_add_mod,show a.length+(n - 1)+1=a.length+0+n from by omega,Nat.add_mod_right,show a.length+(n - 1)+2=a.length+1+n from by omega,Nat.add_mod_right] at this
  exact this
theorem first_zero {l:List Pq} (h1:1<=l.length) (hd:l.Pairwise (· ≠ ·)) (h:∀ k,k < l.length->leP (at' l 0) (at' l k)):firstI l=0:=by
 have hf:=firstI_lt (l:=l) h1
 exact at_inj hd hf (by omega) (leP_anti (firstI_min l (by omega)) (h _ hf))
theorem at_mp {f:Pq->Pq} {l:List Pq} {i:Nat} (h:i < l.length):at' (l.map f) i=f (at' l i):=by
 apply at_of
 rw [List.getElem?_map,at_lt h]; rfl
theorem crs_add (a b c v:Pq):crs (a.add v) (b.add v) (c.add v)=crs a b c:=by
 simp only [crs,Pq.cross,Pq.sub,Pq.add]; grind
theorem Gd.map {l:List Pq} (h:Gd l) (v:Pq):Gd (l.map (·.add v)):=by
 refine ⟨by rw [List.length_map]; exact h.n3,fun i hi=>?_⟩
 rw [List.length_map] at hi
 have h0:=h.crs hi
 unfold flatAt
 rw [decide_eq_false_iff_not,or_zero,List.length_map,at_mp hi,at_mp (Nat.mod_lt _ (by omega)),at_mp (Nat.mod_lt _ (by omega)),crs_add]
 exact h0
def mvE (v:Pq) (e:Sq):Sq:=⟨e.a.add v,e.b.add v⟩
theorem edges_map (l:List Pq) (v:Pq):edgesQ (l.map (·.add v))=(edgesQ l).map (mvE v):=by
 unfold edgesQ
 rw [List.map_map,List.length_map]
 apply List.map_congr_left
 intro i hi
 have hi:i < l.length:=by simpa using hi
 show edgeQ _ i=mvE v (edgeQ l i)
 unfold edgeQ mvE
 rw [List.length_map,at_mp hi,at_mp (Nat.mod_lt _ (by omega))]
theorem on_mv {e:Sq} {v x:Pq} (h:OnS (mvE v e) x):OnS e (x.sub v):=by
 obtain ⟨t,h0,h1,rfl⟩:=h
 exact ⟨t,h0,h1,Pq.ext' (by simp only [mvE,Pq.at,Pq.add,Pq.scale,Pq.sub]; grind) (by simp only [mvE,Pq.at,Pq.add,Pq.scale,Pq.sub]; grind)⟩
theorem sub_eq {x v y:Pq} (h:x.sub v=y):x=y.add v:=by
 rw [<-h]
 exact Pq.ext' (by simp only [Pq.add,Pq.sub]; grind) (by simp only [Pq.add,Pq.sub]; grind)
theorem Smp.map {l:List Pq} (h:Smp l) (v:Pq):Smp (l.map (·.add v)):=by
 refine ⟨by rw [List.length_map]; exact h.n3,fun e he=>?_,?_⟩
 ·rw [edges_map] at he
  obtain ⟨f,hf,rfl⟩:=List.mem_map.1 he
  intro c
  apply h.nd f hf
  have hx:f.a.x+v.x=f.b.x+v.x:=congrArg Pq.x c
  have hy:f.a.y+v.y=f.b.y+v.y:=congrArg Pq.y c
  exact Pq.ext' (by grind) (by grind)
 ·rw [edges_map,List.pairwise_map]
  refine h.pw.imp (fun {e f} hr x h1 h2=>?_)
  rcases hr _ (on_mv h1) (on_mv h2) with ⟨g1,g2⟩ | ⟨g1,g2⟩
  ·left
   refine ⟨by show e.b.add v=f.a.add v; rw [g1],sub_eq g2⟩
  ·right
   refine ⟨by show f.b.add v=e.a.add v; rw [g1],sub_eq g2⟩
theorem leP_add {p q:Pq} (v:Pq) (h:leP p q):leP (p.add v) (q.add v):=by
 unfold leP at *
 simp only [Pq.add]
 grind
theorem Rg.map {l:List Pq} (h:Rg l) (v:Pq):Rg (l.map (·.add v)):=by
 have hs:=h.sm.map v
 have h3:=h.gd.n3
 refine ⟨h.gd.map v,hs,by rw [area_map]; exact h.ar,first_zero (by rw [List.length_map]; omega) hs.dist (fun k hk=>?_)⟩
 rw [List.length_map] at hk
 rw [at_mp hk,at_mp (by omega)]
 have:=firstI_min l hk
 rw [h.fi] at this
 exact leP_add v this
theorem rg_chk {l:List Pq} (h:Rg l) (hl:l.length<=64):chkA (l.map crP)=0:=by
 have h3:=h.gd.n3
 have hf:¬ 0<=flatI l:=fun c=>by
  have:=(flatI_iff l).1 c
  rw [h.gd.flat] at this; cases this
 have ha:¬ cmpQ (areaQ l) 0<=0:=by
  rw [cmpQ_le]
  have:=h.ar
  grind
 rw [chkA_map,if_neg (by omega),if_neg hf,if_neg (by rw [cross_of_smp h.sm]; decide),if_neg ha,h.fi]; rfl
theorem rg_can {X:List Pq} (hg:Gd X) (hs:Smp X) (ha:0 < areaQ X) (hl:X.length<=64):canE true X=0/\IsRot X (canQ X)/\Rg (canQ X):=by
 have h3:=hg.n3
 have e1:=hg.simp
 have e2:turnQ X=X:=by
  unfold turnQ
  rw [if_neg]
  rw [cmpQ_lt]; grind
 have e3:canQ X=X.drop (firstI X)++X.take (firstI X):=by
  unfold canQ
  rw [e1,e2]; rfl
 have hr:IsRot X (canQ X):=by rw [e3]; exact IsRot.of X _
 have hs2:=hr.smp hs
 refine ⟨?_,hr,hg.rot hr,hs2,by rw [hr.area]; exact ha,first_zero (by have:=hr.len; omega) hs2.dist (fun k hk=>?_)⟩
 ·unfold canE
  rw [if_neg (by omega),if_neg (by decide),e1,if_neg (by omega),cross_of_smp hs]; rfl
 ·have hf:=firstI_lt (l:=X) (by omega)
  have e4:at' (canQ X) 0=at' X (firstI X):=by
   rw [e3]
   apply at_of
   rw [List.getElem?_append_left (by rw [List.length_drop]; omega),List.getElem?_drop,Nat.add_zero,at_lt hf]
  have hm:at' (canQ X) k ∈ X:=hr.mem.2 (at_mem hk)
  obtain ⟨j,hj,ej⟩:=mem_at.1 hm
  rw [e4,<-ej]
  exact firstI_min X hj
/-- The parts of a convex ring. -/
structure CutF (A a b:List Pq):Prop where
 ea:canE true a=0
 eb:canE true b=0
 ra:Rg (canQ a)
 rb:Rg (canQ b)
 sum:((centQ (canQ a)).scale (areaQ (canQ a))).add ((centQ (canQ b)).scale (areaQ (canQ b)))=(centQ A).scale (areaQ A)
 la:(canQ a).length=a.length
 lb:(canQ b).length=b.length
theorem cut_ex {A:List Pq} (hA:Rg A) (hl:A.length<=60) (hc:∀ i,i < A.length->0 < orQ (at' A i) (at' A ((i+1) % A.length)) (at' A ((i+2) % A.length))) {m:Nat} (h2:2<=m) (hm:m+2<=A.length) :
  sideQ A (centQ A)=1/\CutF A (A.take (m+1)) (A.drop m++A.take 1):=by
 have h3:=hA.gd.n3
 have ht:=tri_of (cvx_of hA.sm (tn_of h3 (fun i hi=>or_pos.1 (hc i hi))))
 refine ⟨cent_in ht h3,?_⟩
 have hta:=ht.take (m+1)
 have la:(A.take (m+1)).length=m+1:=by rw [List.length_take]; omega
 obtain ⟨ca1,ca2,ca3⟩:=rg_can (hta.gd (by omega)) (hta.smp (by omega)) (tri_area hta (by omega)) (by omega)
 cases hAe:A with
 | nil=>rw [hAe] at h3; simp at h3
 | cons p L=>
  rw [hAe] at ht h3 hl hm
  have hL:L.length=A.length - 1:=by rw [hAe]; simp
  have htb:=ht.gap (m - 1)
  have ed:(p::L).drop m=L.drop (m - 1):=by
   rw [show m=(m - 1)+1 from by omega,List.drop_succ_cons,Nat.add_sub_cancel]
  have hm':m+2<=L.length+1:=by simpa using hm
  have lb0:(p::L.drop (m - 1)).length=L.length+2 - m:=by rw [List.length_cons,List.length_drop]; omega
  have hrb:IsRot (p::L.drop (m - 1)) ((p::L).drop m++(p::L).take 1):=⟨[p],L.drop (m - 1),rfl,by rw [ed]; rfl⟩
  have hlb:=hrb.len
  have hL60:L.length+1<=60:=by simpa using hl
  have hs3:3<=(p::L.drop (m - 1)).length:=by omega
  obtain ⟨cb1,cb2,cb3⟩:=rg_can ((htb.gd hs3).rot hrb) (hrb.smp (htb.smp hs3)) (by rw [hrb.area]; exact tri_area htb hs3) (by omega)
  rw [hAe] at ca1 ca2 ca3 la
  refine ⟨ca1,cb1,ca3,cb3,?_,by rw [<-ca2.len],by rw [<-cb2.len]⟩
  -- both parts as lists
  have hmL:m - 1 < L.length:=by omega
  have e1:(p::L).take (m+1)=p::L.take (m - 1)++[at' L (m - 1)]:=by
   rw [List.take_succ_cons]
   have:=List.take_add_one (l:=L) (i:=m - 1)
   rw [at_lt hmL,show m - 1+1=m from by omega] at this
   rw [this]; rfl
  have e2:L.drop (m - 1)=at' L (m - 1)::L.drop m:=by
   rw [List.drop_eq_getElem_cons hmL,show m - 1+1=m from by omega]
   congr 1
   have:=at_lt hmL; rw [List.getElem?_eq_getElem hmL] at this; exact Option.some.inj this
  have e3:(p::L).drop m++(p::L).take 1=at' L (m - 1)::L.drop m++[p]:=by rw [ed,e2]; rfl
  have e4:p::L=p::L.take (m - 1)++at' L (m - 1)::L.drop m:=by
   rw [<-e2,List.cons_append,List.take_append_drop]
  have k1:=cent_cut (p:=p) (l:=L.take (m - 1)) (q:=at' L (m - 1)) (r:=L.drop m) (by
   rw [<-e1,<-ca2.area]
   have:=ca3.ar
   grind) (by
   rw [<-e3,<-cb2.area]
   have:=cb3.ar
   grind) (by
   rw [<-e4]
   have:=hA.ar
   rw [hAe] at this
   grind)
  rw [<-e1,<-e3,<-e4] at k1
  rw [cent_rot ca2,cent_rot cb2,ca2.area,cb2.area]
  exact k1
theorem fine_rg {l:List Pt} {A:List Pq} (h:Fine l A):Rg A:=
 Rg.of (by have:=h.h3; have:=h.len; omega) h.fl h.cr h.ar h.fi
def hf9:Rat:=((1:Int):Rat) / ((2:Int):Rat)
theorem hf9_in:0<=hf9/\hf9<=1:=by
 have e1:((1:Int):Rat)=1:=rfl
 have e2:((2:Int):Rat)=2:=rfl
 unfold hf9
 rw [e1,e2]
 constructor<;>grind
/-- The edges, so far. -/
structure InnI (A:List Pq) (P:Pq) (n i:Int) (on:Bool):Prop where
 h0:0<=i
 h1:i<=n
 on:on=((edgesQ A).take i.toNat).any fun e=>btwQ e.a e.b P
structure InnF (l:List Pt) (A:List Pq) (p:Pt) (rs:List Sg) (n i:Int) (on:Bool) (j:Int) (e:Sg) (b:Bool) (h:R) (q:Pt):Prop where
 in1:0<=i/\i < (rs.length:Int)
 add:std.ib .add .i64 i 1=j
 g1:std.get Sg rs i zG=e
 kb:Con Tryz.prog 37 [.v e.a.v,.v e.b.v,.v p.v] (.v (.bool b))
 kr:Con Tryz.prog 38 [.v (.int .i64 1),.v (.int .i64 2)] (.v (.tuple #[h.v,.int .i64 0]))
 ka:Con Tryz.prog 39 [.v e.a.v,.v e.b.v,.v h.v] (.v q.v)
 k1:Con Tryz.prog 30 [.ro cP l,.v e.a.v] (.v (.tuple #[.int .i64 0,.int .i64 0]))
 k2:Con Tryz.prog 30 [.ro cP l,.v q.v] (.v (.tuple #[.int .i64 0,.int .i64 0]))
 inv1:on=true->InnI A p.q n j true
 inv2:on=false->InnI A p.q n j b
 mu:(n - j).toNat < (n - i).toNat
theorem innF_ex {l:List Pt} {A:List Pq} (hf:Fine l A) {p:Pt} (hp:IsP 24 p p.q) {rs:List Sg} (hrs:rs=edgesP l) {n i:Int} {on:Bool} (hn:n=(l.length:Int)) (h:InnI A p.q n i on) (hi:i < n):∃ j e b g q,InnF l A p rs n i on j e b g q:=by
 have h0:=h.h0
 have h14:=hf.h14
 have hm:l.map Pt.q=A:=by rw [hf.eq]; exact map_q A
 have hlt:i.toNat < l.length:=by omega
 have hie:=edgeP_is hf.is hlt
 rw [hm] at hie
 have hltA:i.toNat < A.length:=by have:=hf.len; omega
 have hchk:chkA l=0:=by rw [hf.eq]; exact rg_chk (fine_rg hf) (by have:=hf.len; omega)
 have ea:edgeP l i.toNat=crS (edgeQ A i.toNat):=by
  have hg:∀ k,k < l.length->l.getD k zQ=crP (at' A k):=fun k hk=>by
   have hkA:k < A.length:=by have:=hf.len; omega
   rw [hf.eq,List.getD_eq_getElem?_getD,List.getElem?_map,at_lt hkA]; rfl
  unfold edgeP edgeQ crS
  rw [hg _ hlt,hg _ (Nat.mod_lt _ (by omega)),hf.len]
 obtain ⟨b,eb,kb⟩:=btw_p hie.a hie.b hp (by decide)
 have kr:=ratioQ_q 1 2 (by decide) (by decide) (by decide) (by decide)
 have e0:dvE ((2:Int):Rat)=0:=by decide
 rw [e0] at kr
 have hh:Is 24 (cr hf9) hf9:=(((bd_int (n:=1) (by decide)).div (bd_int (n:=2) (by decide))).mono (by decide)).is
 obtain ⟨q,eq,hq,ka⟩:=vat_p hie.a hie.b hh (by decide)
 have hin:∀ (z:Pt),z=crP z.q->IsP 200 z z.q->OnS (edgeQ A i.toNat) z.q->Con Tryz.prog 30 [.ro cP l,.v z.v] (.v (.tuple #[.int .i64 0,.int .i64 0])):=fun z hz hzi ho=>by
  have k:=inside_z (k:=24) (kz:=200) hf.is (by omega) (by decide) (by decide) (by decide) (by decide) hzi
  have c1:canL [z]=true:=by
   have:=canL_map [z.q]
   rw [List.map_cons,List.map_nil,<-hz] at this; exact this
  rw [insS,insE,if_pos hchk,if_pos hchk,if_pos c1,if_pos c1,hm,side_on (edge_mem hltA) ho] at k
  exact k
 have ha9:(edgeP l i.toNat).a=crP (edgeQ A i.toNat).a:=by rw [ea]; rfl
 have hq9:q.q=(edgeQ A i.toNat).a.at (edgeQ A i.toNat).b hf9:=by rw [eq,q_crP]
 have k1:=hin (edgeP l i.toNat).a (by rw [ha9,q_crP]) (by
  have:=hie.a.mono (l:=200) (by decide)
  rw [ha9,q_crP]; rw [ha9] at this; exact this) (by rw [ha9,q_crP]; exact on_first _)
 have k2:=hin q (by rw [hq9]; exact eq) (by
  have:=hq.mono (l:=200) (by decide)
  rw [hq9]; exact this) (by rw [hq9]; exact on_half _ hf9_in.1 hf9_in.2)
 have hst:(edgesQ A).take (i.toNat+1)=(edgesQ A).take i.toNat++[edgeQ A i.toNat]:=edges_take hltA
 refine ⟨i+1,edgeP l i.toNat,b,cr hf9,q,⟨h0,by rw [hrs,edgesP_len]; omega⟩,by rw [s_add,w64 (by omega) (by omega)],?_,kb,kr,ka,k1,k2,fun c=>⟨by omega,by omega,?_⟩,fun c=>⟨by omega,by omega,?_⟩,by omega⟩
 ·show rs.getD i.toNat zG=_
  rw [hrs]; exact edgesP_get hlt
 ·rw [show (i+1).toNat=i.toNat+1 from by omega,hst,List.any_append,<-h.on,c]; rfl
 ·rw [show (i+1).toNat=i.toNat+1 from by omega,hst,List.any_append,<-h.on,c,eb]; simp
/-- What stands beside the loop. -/
structure InnG (l:List Pt) (A:List Pq) (p:Pt) (s:Int) (od on:Bool) (B:Bx) (w:Bool):Prop where
 fine:Fine l A
 ip:IsP 24 p p.q
 ki:Con Tryz.prog 30 [.ro cP l,.v p.v] (.v (.tuple #[.int .i64 s,.int .i64 0]))
 kp:Con Tryz.prog 34 [.ro cP l,.v p.v] (.v (.tuple #[.bool od,.int .i64 0]))
 kb:Con Tryz.prog 40 [.ro cP l] (.v (.tuple #[B.v,.int .i64 0]))
 kw:Con Tryz.prog 41 [.v B.v,.v p.v] (.v (.bool w))
 oe:on=onE A p.q
 cs:(on=true/\s=0)\/(on=false/\od=true/\s=1)\/(on=false/\od=false/\s = -1)
 out:w=false->s = -1
theorem innG_ex {l:List Pt} (h:fineB l=true) {p:Pt} (hg:bigC p=false) (hc:canP p=true):∃ A s od on B w,InnG l A p s od on B w:=by
 obtain ⟨A,hf⟩:=fine_ex h
 have ip:=bigC_no hg
 have h14:=hf.h14
 have h3:=hf.h3
 have hm:l.map Pt.q=A:=by rw [hf.eq]; exact map_q A
 have hchk:chkA l=0:=by rw [hf.eq]; exact rg_chk (fine_rg hf) (by have:=hf.len; omega)
 have ki:=inside_q hf.is (by omega) (by decide) (by decide) ip
 have c1:canL [p]=true:=by
  have:=canL_map [p.q]
  rw [List.map_cons,List.map_nil,<-canP_iff.1 hc] at this; exact this
 rw [insS,insE,if_pos hchk,if_pos hchk,if_pos c1,if_pos c1,hm] at ki
 have kp:=parity_q hf.is (by omega) (by decide) ip
 have c2:canL l=true:=by rw [hf.eq]; exact canL_map A
 rw [parB,parI,if_pos c2,if_pos c2,if_pos c1,if_pos c1,if_neg (by omega),if_neg (by omega),hm] at kp
 have kb:=bound_q hf.is (by omega) (by omega) (by decide)
 obtain ⟨lo,hlo⟩:∃ q,q=exL (-1) (l.getD 0 zQ) l:=⟨_,rfl⟩
 obtain ⟨hi,hhi⟩:∃ q,q=exL 1 (l.getD 0 zQ) l:=⟨_,rfl⟩
 have i0:IsP 24 (l.getD 0 zQ) (l.getD 0 zQ).q:=by
  refine hf.is _ ?_
  rw [List.getD_eq_getElem?_getD,List.getElem?_eq_getElem (by omega)]
  exact List.getElem_mem _
 have ilo:IsP 24 lo lo.q:=by rw [hlo]; exact exL_is i0 hf.is
 have ihi:IsP 24 hi hi.q:=by rw [hhi]; exact exL_is i0 hf.is
 have blo:=(ilo.b).is
 have bhi:=(ihi.b).is
 obtain ⟨w,ew,kw⟩:=within_p (B:=⟨lo.q,hi.q⟩) (a:=crB ⟨lo.q,hi.q⟩) ⟨blo,bhi⟩ ip (by decide)
 rw [<-hlo,<-hhi] at kb
 refine ⟨A,sideQ A p.q,oddQ A p.q,onE A p.q,crB ⟨lo.q,hi.q⟩,w,hf,ip,ki,kp,kb,kw,rfl,?_,?_⟩
 ·unfold sideQ
  cases c:onE A p.q with
  | true=>left; exact ⟨rfl,rfl⟩
  | false=>
   right
   cases d:oddQ A p.q with
   | true=>left; exact ⟨rfl,rfl,rfl⟩
   | false=>right; exact ⟨rfl,rfl,rfl⟩
 ·intro c
  have hno:¬ withinQ ⟨lo.q,hi.q⟩ p.q=true:=by rw [<-ew,c]; decide
  rw [withinQ_iff] at hno
  have l1:=(exL_le l (l.getD 0 zQ)).2
  have l2:=(exL_ge l (l.getD 0 zQ)).2
  rw [<-hlo] at l1
  rw [<-hhi] at l2
  have hmem:∀ q ∈ A,∃ x ∈ l,x.q=q:=fun q hq=>by
   rw [<-hm] at hq
   obtain ⟨x,hx,e⟩:=List.mem_map.1 hq
   exact ⟨x,hx,e⟩
  apply far_side
  refine Classical.byContradiction fun hfar=>hno ?_
  unfold FarQ at hfar
  simp only [not_or] at hfar
  obtain ⟨f1,f2,f3,f4⟩:=hfar
  refine ⟨?_,?_,?_,?_⟩
  ·refine Decidable.byContradiction fun g=>f2 fun q hq=>?_
   obtain ⟨x,hx,rfl⟩:=hmem q hq
   have:=(l1 x hx).1
   have g:¬ 0<=p.q.x - lo.q.x:=g
   grind
  ·refine Decidable.byContradiction fun g=>f4 fun q hq=>?_
   obtain ⟨x,hx,rfl⟩:=hmem q hq
   have:=(l1 x hx).2
   have g:¬ 0<=p.q.y - lo.q.y:=g
   grind
  ·refine Decidable.byContradiction fun g=>f1 fun q hq=>?_
   obtain ⟨x,hx,rfl⟩:=hmem q hq
   have:=(l2 x hx).1
   have g:¬ 0<=hi.q.x - p.q.x:=g
   grind
  ·refine Decidable.byContradiction fun g=>f3 fun q hq=>?_
   obtain ⟨x,hx,rfl⟩:=hmem q hq
   have:=(l2 x hx).2
   have g:¬ 0<=hi.q.y - p.q.y:=g
   grind
theorem ringInner_con (l:List Pt) (hl:l.length<=maxLen) (p:Pt):Con Tryz.prog 6 [.ro cP l,.v p.v] (.v (.bool true)):=by
 have kf:=fine_q l hl
 have kg:=great1_con p
 obtain ⟨n,hn⟩:∃ n:Int,n=l.length:=⟨_,rfl⟩
 have hln:std.len Pt l=n:=by rw [s_len,hn]
 have tkl:std.tk Pt l (std.len Pt l)=l:=by rw [s_tk,s_len]; exact List.take_of_length_le (by omega)
 obtain ⟨fb,efb⟩:∃ r,r=fineB l:=⟨_,rfl⟩
 obtain ⟨gp,egp⟩:∃ r,r=bigC p:=⟨_,rfl⟩
 obtain ⟨cp,ecp⟩:∃ r,r=canP p:=⟨_,rfl⟩
 obtain ⟨ci,eci⟩:∃ r:Int,r=if canP p=true then 0 else 1:=⟨_,rfl⟩
 have kv:gp=false->Con Tryz.prog 25 [.v p.v] (.v (.int .i64 ci)):=fun h=>by
  have:=vchk_q (bigC_no (p:=p) (by rw [<-egp]; exact h)) (by decide)
  rw [<-eci] at this; exact this
 have hci:ci=0->canP p=true:=fun h=>by
  rw [eci] at h
  refine Decidable.byContradiction fun c=>?_
  rw [if_neg c] at h; exact absurd h (by decide)
 rw [<-efb] at kf
 rw [<-egp] at kg
 have hall:fb=true->gp=false->ci=0->∃ A s od on B w,InnG l A p s od on B w:=fun c1 c2 c3=>innG_ex (by rw [<-efb]; exact c1) (by rw [<-egp]; exact c2) (hci c3)
 obtain ⟨i0,hi0⟩:∃ i:Int,i=0:=⟨_,rfl⟩
 obtain ⟨rs,hrs⟩:∃ r,r=edgesP l:=⟨_,rfl⟩
 have ke:l.length<=4096->Con Tryz.prog 36 [.ro cP l] (.own 52 cS rs):=fun h=>by rw [hrs]; exact edges_q h
 have hrl:(rs.length:Int)=n:=by rw [hrs,edgesP_len,hn]
 have hlr:std.len Sg rs=n:=hrl
 clear efb egp ecp eci hci hl
 refine Con.of ttOk mixed Tryz.func6 { ord:=[(11,[0,1,2,3,4,5,6,10,7,8,9])],un:=[(12,3)] } .nil 0 (by kernel_rfl) (fun P' E hP hE=>?_)
 cbv
 refine CallTo.w hP hE kf ⟨(by subst hE; exact Sm.of (c:=cP) tkl),trivial⟩ ?_
 cbv
 refine fork.mk ?_ ?_
 ·intro g
  cbv
  refine awake10_c hP hE ?_
  cbv
 intro g
 have c1:fb=true:=by subst hE; simpa [std] using g
 clear g
 cbv
 refine CallTo.w hP hE kg ⟨rfl,trivial⟩ ?_
 cbv
 refine fork.mk ?_ ?_
 ·intro g
  cbv
  refine awake10_c hP hE ?_
  cbv
 intro g
 have c2:gp=false:=by simpa using g
 clear g
 have kv:=kv c2
 cbv
 refine CallTo.w hP hE kv ⟨rfl,trivial⟩ ?_
 cbv
 refine fork.mk ?_ ?_
 ·intro g
  cbv
  refine awake10_c hP hE ?_
  cbv
 intro g
 have c3:ci=0:=by subst hE; simpa [std] using g
 clear g
 have hall:=hall c1 c2 c3
 cbv
 refine Exists.elim hall ?_
 intro A h
 refine Exists.elim h ?_
 intro s h
 refine Exists.elim h ?_
 intro od h
 refine Exists.elim h ?_
 intro on h
 refine Exists.elim h ?_
 intro B h
 refine Exists.elim h ?_
 intro w hG
 have hn:n=(l.length:Int):=hn
 have h14:=hG.fine.h14
 have ke:=ke (by omega)
 have ki:=hG.ki
 have kp:=hG.kp
 have kb:=hG.kb
 have kw:=hG.kw
 have hp0:InnI A p.q n i0 false:=⟨by omega,by omega,by rw [hi0]; rfl⟩
 have hrnd:∀ i o,InnI A p.q n i o->i < n->∃ j e b g q,InnF l A p rs n i o j e b g q:=fun i o h h'=>innF_ex hG.fine hG.ip hrs hn h h'
 have hfin:∀ i o,InnI A p.q n i o->¬ i < n->o=on:=fun i o h h'=>by
  have h2:=h.h1
  rw [h.on,hG.oe]
  unfold onE
  rw [edges_all (by have:=hG.fine.len; omega)]
 have hcs:=hG.cs
 have hout:=hG.out
 have f1:std.bn (std.bq on (std.ic .eql s 0))=false:=by
  rcases hcs with ⟨a,b⟩ | ⟨a,_,b⟩ | ⟨a,_,b⟩<;>rw [a,b]<;>rfl
 have f2:on=false->std.bn (std.bq (std.ic .eql s 1) od)=false:=fun h=>by
  rcases hcs with ⟨a,b⟩ | ⟨a,c,b⟩ | ⟨a,c,b⟩
  ·rw [a] at h; cases h
  ·rw [b,c]; rfl
  ·rw [b,c]; rfl
 have f3:w=false->std.ic .eql s (-1)=true:=fun h=>by rw [hout h]; rfl
 clear hcs hout hall h hG kf kg kv c1 c2 c3 hn h14
 refine CallTo.w hP hE ki ⟨(by subst hE; exact Sm.of (c:=cP) tkl),rfl,trivial⟩ ?_
 cbv
 refine CallTo.w hP hE kp ⟨(by subst hE; exact Sm.of (c:=cP) tkl),rfl,trivial⟩ ?_
 cbv
 refine CallTo.con hP hE ke ⟨(by subst hE; exact Sm.of (c:=cP) tkl),trivial⟩ ?_
 cbv
 refine LoopTo.by (ι:=Int × Bool) (fun x=>[(9,.v (.bool x.2)),(48,.v (.int .i64 x.1))]) (fun x=>[]) (fun x=>InnI A p.q n x.1 x.2) (fun x=>(n - x.1).toNat) (i0,false) [] hp0 ?_ ?_
 ·cbv
  subst hE
  and_intros
  all_goals first
   | exact True.intro
   | rfl
   | exact vi hi0.symm
   | exact vj hi0.symm
   | (simp; done)
 ·rintro ⟨i,o⟩ hI
  have hI:InnI A p.q n i o:=hI
  clear hp0
  cbv
  refine fork.mk ?_ ?_
  ·intro g
   have hlt:i < n:=by subst hE; rw [<-hlr]; simpa [std] using g
   refine Exists.elim (hrnd i o hI hlt) ?_
   intro j h
   refine Exists.elim h ?_
   intro e h
   refine Exists.elim h ?_
   intro b h
   refine Exists.elim h ?_
   intro hh h
   refine Exists.elim h ?_
   intro q hf
   have in1:=hf.in1
   have hadd:=hf.add
   have hg1:=hf.g1
   have kbt:=hf.kb
   have kr:=hf.kr
   have ka:=hf.ka
   have k1:=hf.k1
   have k2:=hf.k2
   have inv1:=hf.inv1
   have inv2:=hf.inv2
   have hmu:=hf.mu
   clear hf h hI hlt g hrnd hfin
   cbv
   refine Need.mk (by subst hE; exact in1) ?_
   cbv
   refine fork.mk ?_ ?_
   ·intro g
    have co:o=true:=by subst hE; simpa [std] using g
    have hinv:=inv1 co
    cbv
    refine CallTo.w hP hE kr ⟨rfl,rfl,trivial⟩ ?_
    cbv
    refine CallTo.w hP hE ka ⟨(by subst hE; exact congrArg (fun p:Sg=>p.a.v) hg1),(by subst hE; exact congrArg (fun p:Sg=>p.b.v) hg1),rfl,trivial⟩ ?_
    cbv
    refine CallTo.w hP hE k1 ⟨(by subst hE; exact Sm.of (c:=cP) tkl),(by subst hE; exact congrArg (fun p:Sg=>p.a.v) hg1),trivial⟩ ?_
    cbv
    refine forkNo (by subst hE; rfl) ?_
    cbv
    refine forkNo (by subst hE; rfl) ?_
    cbv
    refine CallTo.w hP hE k2 ⟨(by subst hE; exact Sm.of (c:=cP) tkl),rfl,trivial⟩ ?_
    cbv
    refine forkNo (by subst hE; rfl) ?_
    cbv
    refine forkNo (by subst hE; rfl) ?_
    cbv
    refine ⟨(j,true),[0,1,2,3],hinv,hmu,?_⟩
    cbv
    subst hE
    and_intros
    all_goals first
     | exact True.intro
     | rfl
     | exact vi hadd
     | exact vj hadd
     | (simp [co]; done)
   ·intro g
    have co:o=false:=by subst hE; simpa [std] using g
    have hinv:=inv2 co
    cbv
    refine CallTo.w hP hE kbt ⟨(by subst hE; exact congrArg (fun p:Sg=>p.a.v) hg1),(by subst hE; exact congrArg (fun p:Sg=>p.b.v) hg1),rfl,trivial⟩ ?_
    cbv
    refine CallTo.w hP hE kr ⟨rfl,rfl,trivial⟩ ?_
    cbv
    refine CallTo.w hP hE ka ⟨(by subst hE; exact congrArg (fun p:Sg=>p.a.v) hg1),(by subst hE; exact congrArg (fun p:Sg=>p.b.v) hg1),rfl,trivial⟩ ?_
    cbv
    refine CallTo.w hP hE k1 ⟨(by subst hE; exact Sm.of (c:=cP) tkl),(by subst hE; exact congrArg (fun p:Sg=>p.a.v) hg1),trivial⟩ ?_
    cbv
    refine forkNo (by subst hE; rfl) ?_
    cbv
    refine forkNo (by subst hE; rfl) ?_
    cbv
    refine CallTo.w hP hE k2 ⟨(by subst hE; exact Sm.of (c:=cP) tkl),rfl,trivial⟩ ?_
    cbv
    refine forkNo (by subst hE; rfl) ?_
    cbv
    refine forkNo (by subst hE; rfl) ?_
    cbv
    refine ⟨(j,b),[0,1,2,3],hinv,hmu,?_⟩
    cbv
    subst hE
    and_intros
    all_goals first
     | exact True.intro
     | rfl
     | exact vi hadd
     | exact vj hadd
     | (simp [co]; done)
  ·intro g
   have hge:¬ i < n:=by subst hE; rw [<-hlr]; simpa [std] using g
   have ho:=hfin i o hI hge
   rw [<-ho] at f1 f2
   clear hrnd hfin hI hge g
   cbv
   refine CallTo.w hP hE kb ⟨(by subst hE; exact Sm.of (c:=cP) tkl),trivial⟩ ?_
   cbv
   refine forkNo (by subst hE; rfl) ?_
   cbv
   refine forkNo (by subst hE; rfl) ?_
   cbv
   refine forkNo (by subst hE; rfl) ?_
   cbv
   refine forkNo (by subst hE; exact f1) ?_
   cbv
   refine fork.mk ?_ ?_
   ·intro g
    have co:o=false:=by subst hE; simpa [std] using g
    have f5:=f2 co
    cbv
    refine forkNo (by subst hE; exact f5) ?_
    cbv
    refine CallTo.w hP hE kw ⟨rfl,rfl,trivial⟩ ?_
    cbv
    refine fork.mk ?_ ?_
    ·intro g
     cbv
     refine awake10_c hP hE ?_
     cbv
    ·intro g
     have cw:w=false:=by simpa using g
     have f4:=f3 cw
     cbv
     refine forkYes (by subst hE; exact f4) ?_
     cbv
     refine awake10_c hP hE ?_
     cbv
   ·intro g
    cbv
    refine CallTo.w hP hE kw ⟨rfl,rfl,trivial⟩ ?_
    cbv
    refine fork.mk ?_ ?_
    ·intro g
     cbv
     refine awake10_c hP hE ?_
     cbv
    ·intro g
     have cw:w=false:=by simpa using g
     have f4:=f3 cw
     cbv
     refine forkYes (by subst hE; exact f4) ?_
     cbv
     refine awake10_c hP hE ?_
     cbv
end Go.Proofs.YtkipmmiiackdaaaGreat.Sx
namespace Go.Proofs.YtkipmmiiackdaaaGreat.ringInner
open Go.ChangeShapes Go.WideShapes Go.ChangeAt Go.RowKit Go.Proofs.YtkipmmiiackdaaaGreat.Sx
set_option maxRecDepth 100000 in
theorem lifted (os:Os) (started:os.Started) (H:Type) (enc:TypeId × Value->H) :
  ReturnsInHanded {} Tryz.checked os 6 .any (Rows.ringInnerSpec.pre6 enc Tryz.prog Tryz.f6 Rows.ringInnerRow.domain false) (Rows.ringInnerSpec.post enc Tryz.prog Tryz.f6 false true false false):=by
 refine returnsInHanded_of_change_sized (C:=Tryz.checked) own' started (by kernel_rfl) Tryz.func6
  (ChangeSpec.witness6 (enc:=enc) (C:=Tryz.checked) false ⟨#[],#[.slice none 0 0,.agg #[.bool false,.string ByteArray.empty,.string ByteArray.empty,.bool false,.string ByteArray.empty,.string ByteArray.empty]],[]⟩ 8 (by kernel_rfl) (by kernel_rfl) (by kernel_rfl) (by kernel_rfl)) ?_
 intro W base args ds gs before hval0 hW hcnd hsz0 _
 have hval:∀ (j:Nat) t v,Tryz.f6.params[j]?=some t->args[j]?=some v->Value.okWide Tryz.prog W .any base t v:=hval0
 have hW':=hW
 obtain ⟨p,q,hA0,hV,rfl,hfz,hnd⟩:=hW
 have hA:DataW.TrodAll enc Tryz.prog W 0 (fun _=>true) true Tryz.f6.params.toList args.toList ds p:=hA0
 rw [Tryz.params6] at hA hval
 obtain ⟨v0,vs0,d0,ds0,p0,q0,hargs,rfl,rfl,h0,r0⟩:=trodAll_cons hA
 obtain ⟨v1,vs1,d1,ds1,p1,q1,rfl,rfl,rfl,h1,r1⟩:=trodAll_cons r0
 obtain ⟨rfl,rfl,rfl⟩:=trodAll_nil r1
 obtain rfl:args=#[v0,v1]:=by cases args; simp_all
 obtain ⟨rfl,rfl⟩:=trodVars_none hV
 obtain ⟨a0,o0,k0,rfl,le0,ml0,rd0⟩:=open_L (hval 0 22 v0 rfl rfl) h0
 have lt0:=trod_lt' h0
 obtain ⟨a1,rfl⟩:=open_P (hval 1 33 v1 rfl rfl) h1
 have lt1:=trod_lt' h1
 clear hA0 hval0 hsz0
 obtain ⟨_,hc⟩:=(ringInner_con a0 (Nat.le_trans le0 ml0) a1).out W #[.slice o0 a0.length k0,a1.v] (by simp only [T.ats,T.at]; exact ⟨_,_,rfl,⟨cP_ok,_,_,rfl,le0,rd0,fun _ _=>Nat.zero_le _⟩,⟨_,_,rfl,rfl,rfl⟩⟩)
 refine hc.mono fun e W' he=>?_
 obtain ⟨v,rfl,hv,bel⟩:=he
 simp only [T.at] at hv
 subst hv
 exact ⟨_,rfl,_,_,_,[],_,[],hW',trodAll_mk1 (shut_bool Tryz.underlying4 _),(trodAll_cons_mk (Below.trod laidOut' (by kernel_rfl) (of_decide_eq_true (by kernel_rfl)) h0 bel lt0) (trodAll_cons_mk (Below.trod laidOut' (by kernel_rfl) (of_decide_eq_true (by kernel_rfl)) h1 bel lt1) trodAll_mk0)),rfl,bel.frame _,fun h=>by cases h⟩
end Go.Proofs.YtkipmmiiackdaaaGreat.ringInner
namespace Go.Proofs.YtkipmmiiackdaaaGreat.Sx
open Env (std)
open Go.ChangeShapes Go.WideShapes Go.ChangeAt Go.RowKit
section
variable {H:Type} {enc:TypeId × Value->H} {w:World} {base:Nat} {spare:Nat->Bool} {held:Bool}
/-- A byte. -/
theorem open_U {r:Reach} {b0:Nat} {v:Value} {d:DataW H} {ps:List MemPlace} (hv:Value.okWide Tryz.prog w r b0 5 v) (hd:DataW.Trod enc Tryz.prog w base spare held 5 v d ps) :
  ∃ n:Int,v=.int .u8 n/\0<=n/\n < 256:=by
 obtain ⟨n,h,_,_,hw⟩:=open_int Tryz.underlying5 hv hd
 refine ⟨n,h,?_⟩
 have e1:IntKind.u8.min=0:=rfl
 have e2:IntKind.u8.max=255:=rfl
 simp [Lit.wf] at hw
 omega
end
end Go.Proofs.YtkipmmiiackdaaaGreat.Sx
