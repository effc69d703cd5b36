/- Part 23 of what the statement needs: an executor of Go texts, arithmetic, and contracts of the functions that are called. -/
import Derived.Test.YtkipmmiiackdaaaGreatCa22
set_option linter.unusedSimpArgs false
set_option linter.unusedVariables false
namespace Go.Proofs.YtkipmmiiackdaaaGreat.Sx
open Env (std)
/-- The element of a list of points at a place. -/
def at' (l:List Pq) (i:Nat):Pq:=l.getD i Pq.zero
theorem at_set {l:List Pq} {i j:Nat} {p:Pq} (h:i < l.length):at' (l.set i p) j=if i=j then p else at' l j:=by
 unfold at'
 rw [List.getD_eq_getElem?_getD,List.getD_eq_getElem?_getD,List.getElem?_set]
 by_cases e:i=j
 ·subst e; simp [h]
 ·simp [e]
theorem at_mem {l:List Pq} {i:Nat} (h:i < l.length):at' l i ∈ l:=by
 unfold at'; rw [List.getD_eq_getElem?_getD,List.getElem?_eq_getElem h]; exact List.getElem_mem h
/-- Two elements of a list change places. -/
def swp (l:List Pq) (i j:Nat):List Pq:=(l.set i (at' l j)).set j (at' l i)
theorem swp_len (l:List Pq) (i j:Nat):(swp l i j).length=l.length:=by unfold swp; simp
theorem swp_at {l:List Pq} {i j k:Nat} (hi:i < l.length) (hj:j < l.length):at' (swp l i j) k=if j=k then at' l i else if i=k then at' l j else at' l k:=by
 unfold swp
 rw [at_set (by simpa using hj),at_set hi]
/-- Reverse, a round: what lies outside is turned. -/
structure RevI (l0 l:List Pq) (i:Nat) (j:Int):Prop where
 len:l.length=l0.length
 sum:(i:Int)+j=(l0.length:Int) - 1
 le:(i:Int)<=j+1
 out:∀ k,k < l0.length->(k < i\/j < k)->at' l k=at' l0 (l0.length - 1 - k)
 inn:∀ k,i<=k->(k:Int)<=j->at' l k=at' l0 k
theorem at_ext {l l':List Pq} (h:l.length=l'.length) (e:∀ k,k < l.length->at' l k=at' l' k):l=l':=by
 apply List.ext_getElem h
 intro k h1 h2
 have:=e k h1
 unfold at' at this
 rw [List.getD_eq_getElem?_getD,List.getD_eq_getElem?_getD,List.getElem?_eq_getElem h1,List.getElem?_eq_getElem h2] at this
 exact this
theorem at_rev {l:List Pq} {k:Nat} (h:k < l.length):at' l.reverse k=at' l (l.length - 1 - k):=by
 unfold at'
 rw [List.getD_eq_getElem?_getD,List.getD_eq_getElem?_getD,List.getElem?_reverse h]
theorem RevI.first (l:List Pq):RevI l l 0 ((l.length:Int) - 1):=⟨rfl,by omega,by omega,fun k h1 h2=>by omega,fun _ _ _=>rfl⟩
theorem RevI.step {l0 l:List Pq} {i:Nat} {j:Int} (h:RevI l0 l i j) (hc:(i:Int) < j):RevI l0 (swp l i j.toNat) (i+1) (j - 1):=by
 have h1:=h.sum
 have h2:=h.len
 have hi:i < l.length:=by omega
 have hj:j.toNat < l.length:=by omega
 refine ⟨by rw [swp_len]; exact h.len,by omega,by omega,fun k hk ho=>?_,fun k h3 h4=>?_⟩
 ·rw [swp_at hi hj]
  by_cases c1:j.toNat=k
  ·rw [if_pos c1,h.inn i (by omega) (by omega)]; congr 1; omega
  ·rw [if_neg c1]
   by_cases c2:i=k
   ·rw [if_pos c2,h.inn j.toNat (by omega) (by omega)]; congr 1; omega
   ·rw [if_neg c2]; exact h.out k hk (by omega)
 ·rw [swp_at hi hj,if_neg (by omega),if_neg (by omega)]; exact h.inn k (by omega) (by omega)
theorem RevI.done {l0 l:List Pq} {i:Nat} {j:Int} (h:RevI l0 l i j) (hc:¬ (i:Int) < j):l=l0.reverse:=by
 refine at_ext (by rw [h.len,List.length_reverse]) (fun k hk=>?_)
 have h1:=h.sum
 have h2:=h.len
 have h3:=h.le
 rw [at_rev (by omega)]
 by_cases c:k < i\/j < k
 ·exact h.out k (by omega) c
 ·rw [h.inn k (by omega) (by omega)]; congr 1; omega
def edgeQ (l:List Pq) (i:Nat):Sq:=⟨at' l i,at' l ((i+1) % l.length)⟩
def edgesQ (l:List Pq):List Sq:=(List.range l.length).map (edgeQ l)
def sumE (f:Sq->Rat) (es:List Sq):Rat:=es.foldl (fun s e=>s+f e) 0
def sumP (f:Sq->Pq) (es:List Sq):Pq:=es.foldl (fun s e=>s.add (f e)) Pq.zero
def crE (e:Sq):Rat:=e.a.cross e.b
def areaQ (l:List Pq):Rat:=sumE crE (edgesQ l) / ((2:Int):Rat)
def upQ (q p:Pq):Bool:=decide (0 < cmpQ q.y p.y)
/-- Does an edge cross the ray from p to the right? -/
def oddE (p:Pq) (e:Sq):Bool:=if upQ e.a p=true then (!upQ e.b p && (upQ e.a p && decide (0 < orQ e.b e.a p))) else (!upQ e.a p && (upQ e.b p && decide (0 < orQ e.a e.b p)))
def parE (p:Pq) (es:List Sq):Bool:=es.foldl (fun b e=>if oddE p e=true then !b else b) false
def oddQ (l:List Pq) (p:Pq):Bool:=parE p (edgesQ l)
def onE (l:List Pq) (p:Pq):Bool:=(edgesQ l).any fun e=>btwQ e.a e.b p
def sideQ (l:List Pq) (p:Pq):Int:=if onE l p=true then 0 else if oddQ l p=true then 1 else -1
def flatAt (l:List Pq) (i:Nat):Bool:=decide (orQ (at' l ((i+l.length - 1) % l.length)) (at' l i) (at' l ((i+1) % l.length))=0)
def flatB (l:List Pq):Bool:=(List.range l.length).any (flatAt l)
def crossAt (l:List Pq) (i k:Nat):Bool := !(decide (i=0) && decide (k=l.length - 1)) && meetB (edgeQ l i) (edgeQ l k)
def crossB (l:List Pq):Bool:=(List.range l.length).any fun i=>(List.range l.length).any fun k=>decide (i+2<=k) && crossAt l i k
def firstI (l:List Pq):Nat:=(List.range l.length).foldl (fun k i=>if cmpP (at' l i) (at' l k) < 0 then i else k) 0
def remAt (l:List Pq) (i:Nat):Bool:=decide (cmpP (at' l i) (at' l ((i+1) % l.length))=0) || flatAt l i
def centE (e:Sq):Pq:=(e.a.add e.b).scale (crE e)
def centQ (l:List Pq):Pq:=(sumP centE (edgesQ l)).scale (((1:Int):Rat) / (((6:Int):Rat)*areaQ l))
theorem edges_len (l:List Pq):(edgesQ l).length=l.length:=by unfold edgesQ; simp
theorem edges_take {l:List Pq} {i:Nat} (h:i < l.length):(edgesQ l).take (i+1)=(edgesQ l).take i++[edgeQ l i]:=by
 rw [List.take_add_one]
 congr 1
 unfold edgesQ
 rw [List.getElem?_map,List.getElem?_eq_getElem (by simpa using h)]
 simp
theorem edges_all {l:List Pq} {i:Nat} (h:l.length<=i):(edgesQ l).take i=edgesQ l:=List.take_of_length_le (by rw [edges_len]; exact h)
theorem sumE_snoc (f:Sq->Rat) (es:List Sq) (e:Sq):sumE f (es++[e])=sumE f es+f e:=by unfold sumE; rw [List.foldl_append]; rfl
theorem sumP_snoc (f:Sq->Pq) (es:List Sq) (e:Sq):sumP f (es++[e])=(sumP f es).add (f e):=by unfold sumP; rw [List.foldl_append]; rfl
theorem parE_snoc (p:Pq) (es:List Sq) (e:Sq):parE p (es++[e])=if oddE p e=true then !parE p es else parE p es:=by unfold parE; rw [List.foldl_append]; rfl
theorem at_bd {k:Nat} {l:List Pq} (h:∀ p ∈ l,BdP k p) {i:Nat} (hi:i < l.length):BdP k (at' l i):=h _ (at_mem hi)
theorem edge_bd {k:Nat} {l:List Pq} (h:∀ p ∈ l,BdP k p) {i:Nat} (hi:i < l.length):BdS k (edgeQ l i):=
 ⟨at_bd h hi,at_bd h (Nat.mod_lt _ (by omega))⟩
theorem edges_bd {k:Nat} {l:List Pq} (h:∀ p ∈ l,BdP k p):∀ e ∈ edgesQ l,BdS k e:=by
 intro e he
 unfold edgesQ at he
 obtain ⟨i,hi,rfl⟩:=List.mem_map.1 he
 exact edge_bd h (by simpa using hi)
theorem sumE_bd {f:Sq->Rat} {m:Nat}:∀ (es:List Sq),(∀ e ∈ es,Bd m (f e))->Bd (es.length*(m+1)+1) (sumE f es):=by
 intro es
 induction h:es.length generalizing es with
 | zero=>
  intro _
  have:es=[]:=List.eq_nil_of_length_eq_zero h
  subst this
  exact Bd.zero (by omega)
 | succ n ih=>
  intro hb
  obtain ⟨r,e,rfl⟩:∃ r e,es=r++[e]:=⟨es.dropLast,es.getLast (by intro h'; rw [h'] at h; simp at h),(List.dropLast_concat_getLast _).symm⟩
  rw [sumE_snoc]
  have h1:=ih r (by simp at h; exact h) (fun x hx=>hb x (by simp [hx]))
  exact (h1.add (hb e (by simp))).mono (by rw [Nat.succ_mul]; omega)
theorem sumP_bd {f:Sq->Pq} {m:Nat}:∀ (es:List Sq),(∀ e ∈ es,BdP m (f e))->BdP (es.length*(m+1)+1) (sumP f es):=by
 intro es
 induction h:es.length generalizing es with
 | zero=>
  intro _
  have:es=[]:=List.eq_nil_of_length_eq_zero h
  subst this
  exact BdP.zero (by omega)
 | succ n ih=>
  intro hb
  obtain ⟨r,e,rfl⟩:∃ r e,es=r++[e]:=⟨es.dropLast,es.getLast (by intro h'; rw [h'] at h; simp at h),(List.dropLast_concat_getLast _).symm⟩
  rw [sumP_snoc]
  have h1:=ih r (by simp at h; exact h) (fun x hx=>hb x (by simp [hx]))
  exact (h1.add (hb e (by simp))).mono (by rw [Nat.succ_mul]; omega)
theorem crE_bd {k:Nat} {e:Sq} (h:BdS k e):Bd (4*k+1) (crE e):=(h.a.cross h.b).mono (by omega)
def pathE:Pq->List Pq->List Sq
 | _,[]=>[]
 | p,q::r=>⟨p,q⟩::pathE q r
def endP:Pq->List Pq->Pq
 | p,[]=>p
 | _,q::r=>endP q r
theorem path_len:∀ (p:Pq) (l:List Pq),(pathE p l).length=l.length
 | _,[]=>rfl
 | _,q::r=>by simp [pathE,path_len q r]
theorem path_get:∀ (p:Pq) (l:List Pq) (i:Nat),i < l.length->(pathE p l)[i]?=some ⟨at' (p::l) i,at' (p::l) (i+1)⟩
 | _,[],i,h=>by simp at h
 | p,q::r,0,h=>rfl
 | p,q::r,i+1,h=>by
  have:=path_get q r i (by simpa using h)
  simp only [pathE,List.getElem?_cons_succ,this]
  rfl
theorem end_at:∀ (p:Pq) (l:List Pq),endP p l=at' (p::l) l.length
 | _,[]=>rfl
 | p,q::r=>by
  rw [endP,end_at q r]; rfl
theorem edges_cons (p:Pq) (l:List Pq):edgesQ (p::l)=pathE p l++[⟨endP p l,p⟩]:=by
 apply List.ext_getElem?
 intro i
 unfold edgesQ
 rw [List.getElem?_map]
 rcases Nat.lt_trichotomy i l.length with h | h | h
 ·rw [List.getElem?_append_left (by rw [path_len]; exact h),path_get p l i h,List.getElem?_eq_getElem (by simp; omega)]
  simp only [List.getElem_range,Option.map_some,edgeQ,List.length_cons]
  rw [Nat.mod_eq_of_lt (by omega)]
 ·subst h
  rw [List.getElem?_append_right (by rw [path_len]; exact Nat.le_refl _),path_len,Nat.sub_self,List.getElem?_eq_getElem (by simp)]
  simp only [List.getElem_range,Option.map_some,edgeQ,List.length_cons,Nat.mod_self,end_at]
  rfl
 ·rw [List.getElem?_eq_none (by simp; omega),List.getElem?_eq_none (by rw [List.length_append,path_len,List.length_singleton]; omega)]
  rfl
theorem path_app:∀ (p:Pq) (l:List Pq) (q:Pq) (r:List Pq),pathE p (l++q::r)=pathE p l++⟨endP p l,q⟩::pathE q r
 | _,[],_,_=>rfl
 | p,x::l,q,r=>by
  show ⟨p,x⟩::pathE x (l++q::r)=⟨p,x⟩::(pathE x l++⟨endP x l,q⟩::pathE q r)
  rw [path_app x l q r]
theorem end_app:∀ (p:Pq) (l:List Pq) (q:Pq) (r:List Pq),endP p (l++q::r)=endP q r
 | _,[],_,_=>rfl
 | p,x::l,q,r=>end_app x l q r
theorem edges_app (p:Pq) (l:List Pq) (q:Pq) (r:List Pq):edgesQ (p::l++q::r)=pathE p l++⟨endP p l,q⟩::(pathE q r++[⟨endP q r,p⟩]):=by
 show edgesQ (p::(l++q::r))=_
 rw [edges_cons,path_app,end_app]; simp
/-- Another beginning. -/
theorem edges_rot (l1 l2:List Pq):(edgesQ (l2++l1)).Perm (edgesQ (l1++l2)):=by
 match l1,l2 with
 | [],l2=>simp
 | l1,[]=>simp
 | p::l,q::r=>
  rw [edges_app,edges_app]
  have e1:pathE q r++⟨endP q r,p⟩::(pathE p l++[⟨endP p l,q⟩])=(pathE q r++[⟨endP q r,p⟩])++(pathE p l++[⟨endP p l,q⟩]):=by simp
  have e2:pathE p l++⟨endP p l,q⟩::(pathE q r++[⟨endP q r,p⟩])=(pathE p l++[⟨endP p l,q⟩])++(pathE q r++[⟨endP q r,p⟩]):=by simp
  rw [e1,e2]
  exact List.perm_append_comm
def Sq.rev (s:Sq):Sq:=⟨s.b,s.a⟩
theorem end_snoc (x:Pq) (l:List Pq) (p:Pq):endP x (l++[p])=p:=end_app x l p []
/-- Cut between two vertices. -/
theorem edges_cut (p:Pq) (l:List Pq) (q:Pq) (r:List Pq):(edgesQ (p::l++[q])++edgesQ (q::r++[p])).Perm (edgesQ (p::l++q::r)++[⟨q,p⟩,⟨p,q⟩]):=by
 have h1:=edges_app p l q []
 have h2:=edges_app q r p []
 rw [h1,h2,edges_app]
 have e1:pathE p l++(⟨endP p l,q⟩:Sq)::([]++[(⟨q,p⟩:Sq)])++(pathE q r++(⟨endP q r,p⟩:Sq)::([]++[(⟨p,q⟩:Sq)]))=(pathE p l++[⟨endP p l,q⟩])++([⟨q,p⟩]++(pathE q r++[⟨endP q r,p⟩]))++[⟨p,q⟩]:=by simp
 have e2:pathE p l++⟨endP p l,q⟩::(pathE q r++[⟨endP q r,p⟩])++[⟨q,p⟩,⟨p,q⟩]=(pathE p l++[⟨endP p l,q⟩])++((pathE q r++[⟨endP q r,p⟩])++[⟨q,p⟩])++[⟨p,q⟩]:=by simp
 show (pathE p l++(⟨endP p l,q⟩:Sq)::([]++[(⟨q,p⟩:Sq)])++(pathE q r++(⟨endP q r,p⟩:Sq)::([]++[(⟨p,q⟩:Sq)]))).Perm _
 rw [e1,e2]
 exact (List.Perm.append_left _ List.perm_append_comm).append_right _
theorem sumE_cons (f:Sq->Rat) (e:Sq) (es:List Sq):sumE f (e::es)=f e+sumE f es:=by
 have key:∀ (es:List Sq) (s t:Rat),es.foldl (fun s e=>s+f e) (s+t)=s+es.foldl (fun s e=>s+f e) t:=by
  intro es
  induction es with
  | nil=>intro s t; rfl
  | cons e es ih=>intro s t; rw [List.foldl_cons,List.foldl_cons,Rat.add_assoc,ih]
 unfold sumE
 rw [List.foldl_cons,Rat.zero_add]
 have:=key es (f e) 0
 rwa [Rat.add_zero] at this
theorem sumE_perm (f:Sq->Rat) {es es':List Sq} (h:es.Perm es'):sumE f es=sumE f es':=by
 induction h with
 | nil=>rfl
 | cons e _ ih=>rw [sumE_cons,sumE_cons,ih]
 | swap a b l=>rw [sumE_cons,sumE_cons,sumE_cons,sumE_cons]; grind
 | trans _ _ h1 h2=>exact h1.trans h2
theorem sumE_app (f:Sq->Rat):∀ (es es':List Sq),sumE f (es++es')=sumE f es+sumE f es'
 | [],es'=>by rw [List.nil_append]; show _=0+_; rw [Rat.zero_add]
 | e::es,es'=>by rw [List.cons_append,sumE_cons,sumE_cons,sumE_app f es es']; grind
theorem area_rot (l1 l2:List Pq):areaQ (l2++l1)=areaQ (l1++l2):=by unfold areaQ; rw [sumE_perm _ (edges_rot l1 l2)]
theorem area_cut (p:Pq) (l:List Pq) (q:Pq) (r:List Pq):areaQ (p::l++[q])+areaQ (q::r++[p])=areaQ (p::l++q::r):=by
 have h:=sumE_perm crE (edges_cut p l q r)
 rw [sumE_app,sumE_app] at h
 have h2:sumE crE [⟨q,p⟩,⟨p,q⟩]=0:=by
  rw [sumE_cons,sumE_cons]
  show _+(_+0)=0
  simp only [crE,Pq.cross]; grind
 rw [h2] at h
 unfold areaQ
 rw [Rat.div_def,Rat.div_def,Rat.div_def]; grind
def crs (a b c:Pq):Rat:=(b.sub a).cross (c.sub a)
/-- Two edges of a simple polygon: a common point ends one and begins the other. -/
def RelE (e f:Sq):Prop:=∀ x,OnS e x->OnS f x->(e.b=f.a/\x=e.b)\/(f.b=e.a/\x=f.b)
theorem RelE.symm {e f:Sq} (h:RelE e f):RelE f e:=fun x h1 h2=>(h x h2 h1).symm
structure Smp (l:List Pq):Prop where
 n3:3<=l.length
 nd:∀ e ∈ edgesQ l,e.a ≠ e.b
 pw:(edgesQ l).Pairwise RelE
theorem Smp.rot {l1 l2:List Pq} (h:Smp (l1++l2)):Smp (l2++l1):=by
 have hp:=edges_rot l1 l2
 refine ⟨by have:=h.n3; simp at this ⊢; omega,fun e he=>h.nd e (hp.mem_iff.1 he),?_⟩
 exact (List.Perm.pairwise_iff (fun {x y}=>RelE.symm) hp).2 h.pw
/-- Coordinates of a point with respect to a corner v with the ends u and w. -/
def kA (v u w x:Pq):Rat:=crs v x w / crs v u w
def kB (v u w x:Pq):Rat:=crs v u x / crs v u w
theorem kA_at (v u w p q:Pq) (t:Rat):kA v u w (p.at q t)=kA v u w p+(kA v u w q - kA v u w p)*t:=by
 unfold kA
 rw [Rat.div_def,Rat.div_def,Rat.div_def]
 generalize (crs v u w)⁻¹=d
 simp only [crs,Pq.cross,Pq.sub,Pq.at,Pq.add,Pq.scale]; grind
theorem kB_at (v u w p q:Pq) (t:Rat):kB v u w (p.at q t)=kB v u w p+(kB v u w q - kB v u w p)*t:=by
 unfold kB
 rw [Rat.div_def,Rat.div_def,Rat.div_def]
 generalize (crs v u w)⁻¹=d
 simp only [crs,Pq.cross,Pq.sub,Pq.at,Pq.add,Pq.scale]; grind
theorem k_v {v u w:Pq}:kA v u w v=0/\kB v u w v=0:=by
 unfold kA kB
 constructor
 ·have:crs v v w=0:=by simp only [crs,Pq.cross,Pq.sub]; grind
  rw [this,Rat.div_def,Rat.zero_mul]
 ·have:crs v u v=0:=by simp only [crs,Pq.cross,Pq.sub]; grind
  rw [this,Rat.div_def,Rat.zero_mul]
theorem k_u {v u w:Pq} (h:crs v u w ≠ 0):kA v u w u=1/\kB v u w u=0:=by
 unfold kA kB
 constructor
 ·rw [Rat.div_def,Rat.mul_inv_cancel _ h]
 ·have:crs v u u=0:=by simp only [crs,Pq.cross,Pq.sub]; grind
  rw [this,Rat.div_def,Rat.zero_mul]
theorem k_w {v u w:Pq} (h:crs v u w ≠ 0):kA v u w w=0/\kB v u w w=1:=by
 unfold kA kB
 constructor
 ·have:crs v w w=0:=by simp only [crs,Pq.cross,Pq.sub]; grind
  rw [this,Rat.div_def,Rat.zero_mul]
 ·rw [Rat.div_def,Rat.mul_inv_cancel _ h]
/-- A point by its coordinates. -/
theorem k_pt {v u w:Pq} (h:crs v u w ≠ 0) (x:Pq):x.x=v.x+(u.x - v.x)*kA v u w x+(w.x - v.x)*kB v u w x/\x.y=v.y+(u.y - v.y)*kA v u w x+(w.y - v.y)*kB v u w x:=by
 obtain ⟨d,hd⟩:∃ d,d=(crs v u w)⁻¹:=⟨_,rfl⟩
 have hm:crs v u w*d=1:=by rw [hd]; exact Rat.mul_inv_cancel _ h
 unfold kA kB
 rw [Rat.div_def,Rat.div_def,<-hd]
 simp only [crs,Pq.cross,Pq.sub] at hm ⊢
 constructor<;>grind
/-- Either q lies strictly within the corner, or one meets a side on the way. -/
theorem exit_num {a b a' b':Rat} (ha:0 < a) (hb:0 < b) (hp:a+b<=1) (hq2:a'+b' < 1) :
  (0 < a'/\0 < b')\/∃ t:Rat,0 < t/\t<=1/\((b+(b' - b)*t=0/\0<=a+(a' - a)*t/\a+(a' - a)*t < 1)\/(a+(a' - a)*t=0/\0<=b+(b' - b)*t/\b+(b' - b)*t < 1)):=by
 have cut:∀ {c c':Rat},0 < c->c'<=0->∃ t:Rat,0 < t/\t<=1/\t*(c - c')=c:=by
  intro c c' h1 h2
  have h3:0 < c - c':=by grind
  refine ⟨c / (c - c'),?_,?_,?_⟩
  ·rw [Rat.lt_div_iff h3]; grind
  ·have:=(div_in (n:=c) h3).2.2 (by grind); exact this
  ·rw [Rat.div_mul_cancel (by grind)]
 have one:∀ {a b a' b':Rat},0 < a->0 < b->a+b<=1->a'+b' < 1->∀ t:Rat,0 < t->t<=1->t*(b - b')=b->0<=a+(a' - a)*t->b+(b' - b)*t=0/\0<=a+(a' - a)*t/\a+(a' - a)*t < 1:=by
  intro a b a' b' h1 h2 h3 h4 t h5 h6 h7 h8
  have e:b+(b' - b)*t=0:=by grind
  refine ⟨e,h8,?_⟩
  have q1:0<=(1 - (a+b))*(1 - t):=Rat.mul_nonneg (by grind) (by grind)
  have q2:0 < (1 - (a'+b'))*t:=Rat.mul_pos (by grind) h5
  grind
 by_cases c1:0 < a'
 ·by_cases c2:0 < b'
  ·exact .inl ⟨c1,c2⟩
  ·right
   obtain ⟨t,h0,h1,ht⟩:=cut hb (show b'<=0 by grind)
   refine ⟨t,h0,h1,.inl (one ha hb hp hq2 t h0 h1 ht ?_)⟩
   have q1:0<=a*(1 - t):=Rat.mul_nonneg (by grind) (by grind)
   have q2:0<=a'*t:=Rat.mul_nonneg (by grind) (by grind)
   grind
 ·right
  obtain ⟨s,s0,s1,hs⟩:=cut ha (show a'<=0 by grind)
  by_cases c2:0 < b'
  ·refine ⟨s,s0,s1,.inr (one hb ha (by grind) (by grind) s s0 s1 hs ?_)⟩
   have q1:0<=b*(1 - s):=Rat.mul_nonneg (by grind) (by grind)
   have q2:0<=b'*s:=Rat.mul_nonneg (by grind) (by grind)
   grind
  ·obtain ⟨t,h0,h1,ht⟩:=cut hb (show b'<=0 by grind)
   by_cases c3:t<=s
   ·refine ⟨t,h0,h1,.inl (one ha hb hp hq2 t h0 h1 ht ?_)⟩
    have q1:0<=(s - t)*(a - a'):=Rat.mul_nonneg (by grind) (by grind)
    grind
   ·refine ⟨s,s0,s1,.inr (one hb ha (by grind) (by grind) s s0 s1 hs ?_)⟩
    have q1:0<=(t - s)*(b - b'):=Rat.mul_nonneg (by grind) (by grind)
    grind
/-- From a point of a segment towards one of its ends. -/
theorem on_to {e:Sq} {x q:Pq} {t:Rat} (hx:OnS e x) (hq:q=e.a\/q=e.b) (h0:0<=t) (h1:t<=1):OnS e (x.at q t):=by
 obtain ⟨s,s0,s1,rfl⟩:=hx
 rcases hq with rfl | rfl
 ·refine ⟨s*(1 - t),Rat.mul_nonneg s0 (by grind),?_,Pq.ext' ?_ ?_⟩
  ·have:=Rat.mul_nonneg s0 h0; grind
  ·simp only [Pq.at,Pq.add,Pq.scale,Pq.sub]; grind
  ·simp only [Pq.at,Pq.add,Pq.scale,Pq.sub]; grind
 ·refine ⟨s+(1 - s)*t,?_,?_,Pq.ext' ?_ ?_⟩
  ·have:=Rat.mul_nonneg (show 0<=1 - s by grind) h0; grind
  ·have:=Rat.mul_nonneg (show 0<=1 - s by grind) (show 0<=1 - t by grind); grind
  ·simp only [Pq.at,Pq.add,Pq.scale,Pq.sub]; grind
  ·simp only [Pq.at,Pq.add,Pq.scale,Pq.sub]; grind
theorem k_eq {v u w:Pq} (h:crs v u w ≠ 0) {x y:Pq} (ha:kA v u w x=kA v u w y) (hb:kB v u w x=kB v u w y):x=y:=by
 have h1:=k_pt h x
 have h2:=k_pt h y
 exact Pq.ext' (by rw [h1.1,h2.1,ha,hb]) (by rw [h1.2,h2.2,ha,hb])
theorem on_uv {v u w:Pq} (h:crs v u w ≠ 0) {y:Pq} (hb:kB v u w y=0) (h0:0<=kA v u w y) (h1:kA v u w y<=1):OnS ⟨u,v⟩ y:=by
 have hk:=k_pt h y
 rw [hb] at hk
 refine ⟨1 - kA v u w y,by grind,by grind,Pq.ext' ?_ ?_⟩
 ·rw [hk.1]; simp only [Pq.at,Pq.add,Pq.scale,Pq.sub]; grind
 ·rw [hk.2]; simp only [Pq.at,Pq.add,Pq.scale,Pq.sub]; grind
theorem on_vw {v u w:Pq} (h:crs v u w ≠ 0) {y:Pq} (ha:kA v u w y=0) (h0:0<=kB v u w y) (h1:kB v u w y<=1):OnS ⟨v,w⟩ y:=by
 have hk:=k_pt h y
 rw [ha] at hk
 refine ⟨kB v u w y,h0,h1,Pq.ext' ?_ ?_⟩
 ·rw [hk.1]; simp only [Pq.at,Pq.add,Pq.scale,Pq.sub]; grind
 ·rw [hk.2]; simp only [Pq.at,Pq.add,Pq.scale,Pq.sub]; grind
/-- An edge that does not begin or end in the corner does not leave it by its sides. -/
theorem exit_pt {v u w:Pq} (h:crs v u w ≠ 0) {e:Sq} (h1:RelE e ⟨u,v⟩) (h2:RelE e ⟨v,w⟩) (ha:e.a ≠ v) (hb:e.b ≠ v) {x:Pq} (hx:OnS e x) (xa:0 < kA v u w x) (xb:0 < kB v u w x) (xs:kA v u w x+kB v u w x<=1) {q:Pq} (hq:q=e.a\/q=e.b) (qs:kA v u w q+kB v u w q < 1):0 < kA v u w q/\0 < kB v u w q:=by
 rcases exit_num xa xb xs qs with c | ⟨t,t0,t1,c⟩
 ·exact c
 ·have hy:=on_to hx hq (Rat.le_of_lt t0) t1
  have ea:=kA_at v u w x q t
  have eb:=kB_at v u w x q t
  rw [<-ea,<-eb] at c
  generalize x.at q t=y at *
  exfalso
  rcases c with ⟨c1,c2,c3⟩ | ⟨c1,c2,c3⟩
  ·rcases h1 y hy (on_uv h c1 c2 (Rat.le_of_lt c3)) with ⟨g1,g2⟩ | ⟨g1,g2⟩
   ·have e:y=u:=g2.trans g1
    rw [e,(k_u h).1] at c3
    exact absurd c3 (by decide)
   ·exact ha g1.symm
  ·rcases h2 y hy (on_vw h c1 c2 (Rat.le_of_lt c3)) with ⟨g1,g2⟩ | ⟨g1,g2⟩
   ·exact hb g1
   ·have e:y=w:=g2
    rw [e,(k_w h).2] at c3
    exact absurd c3 (by decide)
/-- One end of a segment is not higher than a point of it. -/
theorem low_end {f:Pq->Rat} (hf:∀ p q t,f (p.at q t)=f p+(f q - f p)*t) {e:Sq} {x:Pq} (hx:OnS e x):f e.a<=f x\/f e.b<=f x:=by
 obtain ⟨t,h0,h1,rfl⟩:=hx
 rw [hf]
 by_cases c:f e.a<=f e.b
 ·left
  have:=Rat.mul_nonneg (show 0<=f e.b - f e.a by grind) h0; grind
 ·right
  have:=Rat.mul_nonneg (show 0<=f e.a - f e.b by grind) (show 0<=1 - t by grind); grind
/-- The diagonal from the corner to a vertex nearest to it meets no other edge. -/
theorem diag_off {v u w z:Pq} (h:crs v u w ≠ 0) (za:0 < kA v u w z) (zb:0 < kB v u w z) (zs:kA v u w z+kB v u w z<=1) {e:Sq} (h1:RelE e ⟨u,v⟩) (h2:RelE e ⟨v,w⟩) (ha:e.a ≠ v) (hb:e.b ≠ v)
  (hm:∀ q,q=e.a\/q=e.b->0 < kA v u w q->0 < kB v u w q->kA v u w q+kB v u w q < 1->kA v u w z+kB v u w z<=kA v u w q+kB v u w q) {x:Pq} (hx:OnS e x) (hd:OnS ⟨z,v⟩ x):x=z:=by
 have huv:u ≠ v:=by
  intro c; apply h; rw [c]; simp only [crs,Pq.cross,Pq.sub]; grind
 obtain ⟨t,t0,t1,et⟩:=hd
 have et:x=z.at v t:=et
 apply Classical.byContradiction
 intro hne
 have tp:0 < t:=by
  by_cases c:t=0
  ·exfalso; apply hne
   rw [et,c]
   exact Pq.ext' (by simp only [Pq.at,Pq.add,Pq.scale,Pq.sub]; grind) (by simp only [Pq.at,Pq.add,Pq.scale,Pq.sub]; grind)
  ·grind
 have ea:=kA_at v u w z v t
 have eb:=kB_at v u w z v t
 rw [<-et,k_v.1] at ea
 rw [<-et,k_v.2] at eb
 by_cases ct:t=1
 ·have e:x=v:=by
   rw [et,ct]
   exact Pq.ext' (by simp only [Pq.at,Pq.add,Pq.scale,Pq.sub]; grind) (by simp only [Pq.at,Pq.add,Pq.scale,Pq.sub]; grind)
  rcases h1 v (e ▸ hx) (at_on (s:=⟨u,v⟩)).2 with ⟨g1,g2⟩ | ⟨g1,g2⟩
  ·exact hb g2.symm
  ·exact ha g1.symm
 ·have tl:0 < 1 - t:=by grind
  have xa:0 < kA v u w x:=by have:=Rat.mul_pos za tl; grind
  have xb:0 < kB v u w x:=by have:=Rat.mul_pos zb tl; grind
  have xs:kA v u w x+kB v u w x < kA v u w z+kB v u w z:=by
   have:=Rat.mul_pos (show 0 < kA v u w z+kB v u w z by grind) tp; grind
  have key:∀ q,q=e.a\/q=e.b->kA v u w q+kB v u w q<=kA v u w x+kB v u w x->False:=by
   intro q hq hle
   have hin:=exit_pt h h1 h2 ha hb hx xa xb (by grind) hq (by grind)
   have:=hm q hq hin.1 hin.2 (by grind)
   grind
  rcases low_end (f:=fun p=>kA v u w p+kB v u w p) (fun p q t=>by simp only [kA_at,kB_at]; grind) hx with c | c
  ·exact key _ (.inl rfl) c
  ·exact key _ (.inr rfl) c
theorem f_on {f:Pq->Rat} (hf:∀ p q t,f (p.at q t)=f p+(f q - f p)*t) {e:Sq} {t:Rat} {x:Pq} (ht:x=e.a.at e.b t):f x=f e.a*(1 - t)+f e.b*t:=by
 rw [ht,hf]; grind
/-- An ear is cut off: the new edge meets an old one only where they follow each other. -/
theorem ear_rel {v u w:Pq} (h:crs v u w ≠ 0) {e:Sq} (h1:RelE e ⟨u,v⟩) (h2:RelE e ⟨v,w⟩) (ha:e.a ≠ v) (hb:e.b ≠ v) (hne:e.a ≠ e.b) (hwu:¬ (e.a=w/\e.b=u))
  (hout:∀ q,q=e.a\/q=e.b->q ≠ u->q ≠ w->¬ (0<=kA v u w q/\0<=kB v u w q/\kA v u w q+kB v u w q<=1)):RelE e ⟨u,w⟩:=by
 have huw:u ≠ w:=by
  intro c; apply h; rw [c]; simp only [crs,Pq.cross,Pq.sub]; grind
 have ku:=k_u h
 have kw:=k_w h
 have fA:∀ p q t,kA v u w (p.at q t)=kA v u w p+(kA v u w q - kA v u w p)*t:=kA_at v u w
 have fB:∀ p q t,kB v u w (p.at q t)=kB v u w p+(kB v u w q - kB v u w p)*t:=kB_at v u w
 intro x hx hd
 have atu:OnS e u->e.b=u:=fun hu=>by
  rcases h1 u hu (at_on (s:=⟨u,v⟩)).1 with ⟨g1,g2⟩ | ⟨g1,g2⟩
  ·exact g1
  ·exact absurd g1.symm ha
 have atw:OnS e w->w=e.a:=fun hw=>by
  rcases h2 w hw (at_on (s:=⟨v,w⟩)).2 with ⟨g1,g2⟩ | ⟨g1,g2⟩
  ·exact absurd g1 hb
  ·exact g1
 by_cases xu:x=u
 ·left
  have:=atu (xu ▸ hx)
  exact ⟨this,by rw [xu,this]⟩
 by_cases xw:x=w
 ·right
  exact ⟨atw (xw ▸ hx),xw⟩
 exfalso
 obtain ⟨t,t0,t1,et⟩:=hd
 have et:x=u.at w t:=et
 have xA:kA v u w x=1 - t:=by rw [et,fA,ku.1,kw.1]; grind
 have xB:kB v u w x=t:=by rw [et,fB,ku.2,kw.2]; grind
 have tA:0 < 1 - t:=by
  by_cases c:t=1
  ·exfalso; apply xw
   exact k_eq h (by rw [xA,kw.1,c]; grind) (by rw [xB,kw.2,c])
  ·grind
 have tB:0 < t:=by
  by_cases c:t=0
  ·exfalso; apply xu
   exact k_eq h (by rw [xA,ku.1,c]; grind) (by rw [xB,ku.2,c])
  ·grind
 have low:∀ q,q=e.a\/q=e.b->¬ kA v u w q+kB v u w q < 1:=by
  intro q hq hlt
  have hin:=exit_pt h h1 h2 ha hb hx (by rw [xA]; exact tA) (by rw [xB]; exact tB) (by rw [xA,xB]; grind) hq hlt
  exact hout q hq (fun c=>by rw [c,ku.2] at hin; exact absurd hin.2 (by decide)) (fun c=>by rw [c,kw.1] at hin; exact absurd hin.1 (by decide)) ⟨Rat.le_of_lt hin.1,Rat.le_of_lt hin.2,Rat.le_of_lt hlt⟩
 have notx:∀ q,q=e.a\/q=e.b->q ≠ x:=by
  intro q hq c
  refine hout q hq (fun d=>xu (c ▸ d)) (fun d=>xw (c ▸ d)) ?_
  rw [c,xA,xB]; exact ⟨Rat.le_of_lt tA,Rat.le_of_lt tB,by grind⟩
 obtain ⟨s,s0,s1,es⟩:=hx
 have hx:OnS e x:=⟨s,s0,s1,es⟩
 have sp:0 < s:=by
  by_cases c:s=0
  ·exfalso; apply notx _ (.inl rfl)
   rw [es,c]; exact Pq.ext' (by simp only [Pq.at,Pq.add,Pq.scale,Pq.sub]; grind) (by simp only [Pq.at,Pq.add,Pq.scale,Pq.sub]; grind)
  ·grind
 have sq:0 < 1 - s:=by
  by_cases c:s=1
  ·exfalso; apply notx _ (.inr rfl)
   rw [es,c]; exact Pq.ext' (by simp only [Pq.at,Pq.add,Pq.scale,Pq.sub]; grind) (by simp only [Pq.at,Pq.add,Pq.scale,Pq.sub]; grind)
  ·grind
 have eA:=f_on fA es
 have eB:=f_on fB es
 rw [xA] at eA
 rw [xB] at eB
 have l1:=low _ (.inl rfl)
 have l2:=low _ (.inr rfl)
 have p1:=Rat.mul_nonneg (show 0<=kA v u w e.a+kB v u w e.a - 1 by grind) (Rat.le_of_lt sq)
 have p2:=Rat.mul_nonneg (show 0<=kA v u w e.b+kB v u w e.b - 1 by grind) (Rat.le_of_lt sp)
 have sa:kA v u w e.a+kB v u w e.a=1:=by
  apply Classical.byContradiction
  intro c
  have:=Rat.mul_pos (show 0 < kA v u w e.a+kB v u w e.a - 1 by grind) sq
  grind
 have sb:kA v u w e.b+kB v u w e.b=1:=by
  apply Classical.byContradiction
  intro c
  have:=Rat.mul_pos (show 0 < kA v u w e.b+kB v u w e.b - 1 by grind) sp
  grind
 have cut:∀ {c c':Rat},0 < c->c' < 0->∃ r:Rat,0<=r/\r<=1/\c+(c' - c)*r=0:=by
  intro c c' h1 h2
  have h3:0 < c - c':=by grind
  refine ⟨c / (c - c'),?_,?_,?_⟩
  ·exact (div_in (n:=c) h3).1.2 (by grind)
  ·exact (div_in (n:=c) h3).2.2 (by grind)
  ·have:c / (c - c')*(c - c')=c:=Rat.div_mul_cancel (by grind)
   grind
 have sumq:∀ q,q=e.a\/q=e.b->kA v u w q+kB v u w q=1:=by
  intro q hq
  rcases hq with rfl | rfl
  ·exact sa
  ·exact sb
 have noB:∀ q,q=e.a\/q=e.b->¬ kB v u w q < 0:=by
  intro q hq hlt
  obtain ⟨r,r0,r1,er⟩:=cut (show 0 < kB v u w x by rw [xB]; exact tB) hlt
  have hy:=on_to hx hq r0 r1
  have yB:=fB x q r
  rw [er] at yB
  have yA:=fA x q r
  have hs:=sumq q hq
  have yu:x.at q r=u:=k_eq h (by rw [yA,ku.1]; grind) (by rw [yB,ku.2])
  have hbu:=atu (yu ▸ hy)
  rw [hbu,ku.2] at eB
  rcases hq with rfl | rfl
  ·have:=Rat.mul_pos (show 0 < - kB v u w e.a by grind) sq
   grind
  ·rw [hbu,ku.2] at hlt; exact absurd hlt (by decide)
 have noA:∀ q,q=e.a\/q=e.b->¬ kA v u w q < 0:=by
  intro q hq hlt
  obtain ⟨r,r0,r1,er⟩:=cut (show 0 < kA v u w x by rw [xA]; exact tA) hlt
  have hy:=on_to hx hq r0 r1
  have yA:=fA x q r
  rw [er] at yA
  have yB:=fB x q r
  have hs:=sumq q hq
  have yw:x.at q r=w:=k_eq h (by rw [yA,kw.1]) (by rw [yB,kw.2]; grind)
  have haw:=atw (yw ▸ hy)
  rw [<-haw,kw.1] at eA
  rcases hq with rfl | rfl
  ·rw [<-haw,kw.1] at hlt; exact absurd hlt (by decide)
  ·have:=Rat.mul_pos (show 0 < - kA v u w e.b by grind) sp
   grind
 have ends:∀ q,q=e.a\/q=e.b->q=u\/q=w:=by
  intro q hq
  by_cases c1:q=u
  ·exact .inl c1
  ·by_cases c2:q=w
   ·exact .inr c2
   ·exfalso
    have h3:=noA q hq
    have h4:=noB q hq
    have h5:=sumq q hq
    exact hout q hq c1 c2 ⟨by grind,by grind,by grind⟩
 rcases ends _ (.inl rfl) with c1 | c1
 ·rcases ends _ (.inr rfl) with c2 | c2
  ·exact hne (c1.trans c2.symm)
  ·have:=atw (c2 ▸ (at_on (s:=e)).2)
   exact huw (c1.symm.trans this.symm)
 ·rcases ends _ (.inr rfl) with c2 | c2
  ·exact hwu ⟨c1,c2⟩
  ·exact hne (c1.trans c2.symm)
theorem cmpQ_le0 {x:Rat}:cmpQ x 0<=0 ↔ x<=0:=by
 unfold cmpQ
 split
 ·constructor
  ·intro _; grind
  ·intro _; decide
 ·split
  ·constructor
   ·intro h; exact absurd h (by decide)
   ·intro h; grind
  ·constructor
   ·intro _; grind
   ·intro _; decide
def btwD (a b p:Pq):Bool:=decide (orQ a b p=0/\cmpQ ((a.sub p).dot (b.sub p)) 0<=0)
theorem sqn (x:Rat):0<=x*x:=by
 by_cases c:0<=x
 ·exact Rat.mul_nonneg c c
 ·have:=Rat.mul_nonneg (show 0 <= -x by grind) (show 0 <= -x by grind)
  grind
theorem btwD_on (a b p:Pq):btwD a b p=true ↔ OnS ⟨a,b⟩ p:=by
 unfold btwD orQ
 rw [decide_eq_true_iff,cmpQ_eq,cmpQ_le0]
 constructor
 ·rintro ⟨h1,h2⟩
  obtain ⟨ux,hux⟩:∃ u,u=b.x - a.x:=⟨_,rfl⟩
  obtain ⟨uy,huy⟩:∃ u,u=b.y - a.y:=⟨_,rfl⟩
  obtain ⟨qx,hqx⟩:∃ u,u=p.x - a.x:=⟨_,rfl⟩
  obtain ⟨qy,hqy⟩:∃ u,u=p.y - a.y:=⟨_,rfl⟩
  have e1:ux*qy - uy*qx=0:=by
   simp only [Pq.cross,Pq.sub] at h1; rw [hux,huy,hqx,hqy]; exact h1
  have e2:qx*qx+qy*qy<=ux*qx+uy*qy:=by
   simp only [Pq.dot,Pq.sub] at h2; rw [hux,huy,hqx,hqy]; grind
  have s1:=sqn ux
  have s2:=sqn uy
  have s3:=sqn qx
  have s4:=sqn qy
  by_cases hu:ux*ux+uy*uy=0
  ·have z1:ux*ux=0:=by grind
   have z2:uy*uy=0:=by grind
   have z3:ux=0:=by rcases Rat.mul_eq_zero.1 z1 with c | c<;>exact c
   have z4:uy=0:=by rcases Rat.mul_eq_zero.1 z2 with c | c<;>exact c
   have z5:qx*qx=0:=by rw [z3,z4] at e2; grind
   have z6:qy*qy=0:=by rw [z3,z4] at e2; grind
   have z7:qx=0:=by rcases Rat.mul_eq_zero.1 z5 with c | c<;>exact c
   have z8:qy=0:=by rcases Rat.mul_eq_zero.1 z6 with c | c<;>exact c
   refine ⟨0,Rat.le_refl,by decide,Pq.ext' ?_ ?_⟩
   ·simp only [Pq.at,Pq.add,Pq.scale,Pq.sub]; grind
   ·simp only [Pq.at,Pq.add,Pq.scale,Pq.sub]; grind
  ·have hp:0 < ux*ux+uy*uy:=by grind
   obtain ⟨t,ht⟩:∃ t,t=(ux*qx+uy*qy) / (ux*ux+uy*uy):=⟨_,rfl⟩
   have htm:t*(ux*ux+uy*uy)=ux*qx+uy*qy:=by rw [ht]; exact Rat.div_mul_cancel hu
   have ex:qx=ux*t:=by
    have:(qx - ux*t)*(ux*ux+uy*uy)=0:=by grind
    rcases Rat.mul_eq_zero.1 this with c | c
    ·grind
    ·exact absurd c hu
   have ey:qy=uy*t:=by
    have:(qy - uy*t)*(ux*ux+uy*uy)=0:=by grind
    rcases Rat.mul_eq_zero.1 this with c | c
    ·grind
    ·exact absurd c hu
   have tn:t*t<=t:=by
    apply Classical.byContradiction
    intro c
    have:=Rat.mul_pos (show 0 < t*t - t by grind) hp
    rw [ex,ey] at e2
    grind
   have t0:0<=t:=by have:=sqn t; grind
   have t1:t<=1:=by
    apply Classical.byContradiction
    intro c
    have:=Rat.mul_pos (show 0 < t by grind) (show 0 < t - 1 by grind)
    grind
   refine ⟨t,t0,t1,Pq.ext' ?_ ?_⟩
   ·simp only [Pq.at,Pq.add,Pq.scale,Pq.sub]; grind
   ·simp only [Pq.at,Pq.add,Pq.scale,Pq.sub]; grind
 ·rintro ⟨t,t0,t1,rfl⟩
  have hq:0<=t*(1 - t):=Rat.mul_nonneg t0 (by grind)
  have s1:=sqn (b.x - a.x)
  have s2:=sqn (b.y - a.y)
  constructor
  ·simp only [Pq.cross,Pq.at,Pq.add,Pq.scale,Pq.sub]; grind
  ·have:=Rat.mul_nonneg hq (show 0<=(b.x - a.x)*(b.x - a.x)+(b.y - a.y)*(b.y - a.y) by grind)
   simp only [Pq.dot,Pq.at,Pq.add,Pq.scale,Pq.sub]
   grind
theorem btwD_eq (a b p:Pq):btwD a b p=btwQ a b p:=by
 have h1:=btwD_on a b p
 have h2:=on_iff ⟨a,b⟩ p
 unfold onQ at h2
 rw [Bool.eq_iff_iff,h1,h2]
/-- A common point, as the reference asks for it. -/
def meetD (a b c d:Pq):Bool:=(btwQ a b c || btwQ a b d || btwQ c d a || btwQ c d b) || (decide (orQ a b c*orQ a b d < 0) && decide (orQ c d a*orQ c d b < 0))
theorem cmpQ_neg1 {x y:Rat}:cmpQ x 0*cmpQ y 0 < 0 ↔ cmpQ x 0*cmpQ y 0 = -1:=by
 unfold cmpQ
 split<;>split<;>(try split)<;>(try split)<;>decide
theorem cmpQ_mul_neg {x y:Rat}:cmpQ x 0*cmpQ y 0 < 0 ↔ x*y < 0:=by rw [cmpQ_neg1,sgn_mul]
theorem meetD_on {a b c d:Pq} (hab:a ≠ b) (hcd:c ≠ d):meetD a b c d=true ↔ ∃ x,OnS ⟨a,b⟩ x/\OnS ⟨c,d⟩ x:=by
 have o1:=fun p=>on_iff ⟨a,b⟩ p
 have o2:=fun p=>on_iff ⟨c,d⟩ p
 unfold onQ at o1 o2
 unfold meetD
 simp only [Bool.or_eq_true,Bool.and_eq_true,decide_eq_true_iff]
 constructor
 ·rintro ((((h | h) | h) | h) | h)
  ·exact ⟨c,(o1 c).1 h,at_on.1⟩
  ·exact ⟨d,(o1 d).1 h,at_on.2⟩
  ·exact ⟨a,at_on.1,(o2 a).1 h⟩
  ·exact ⟨b,at_on.2,(o2 b).1 h⟩
  ·have hc:=(cross_iff ⟨a,b⟩ ⟨c,d⟩).2 ⟨cmpQ_neg1.1 h.1,cmpQ_neg1.1 h.2⟩
   obtain ⟨_,m,hm,_⟩:=crossQ_iff.1 hc
   exact ⟨m.a,(meet_on (s:=⟨a,b⟩) (t:=⟨c,d⟩) hab hcd m.a).2 ⟨m,hm,at_on.1⟩⟩
 ·rintro ⟨x,⟨t,t0,t1,ht⟩,⟨s,s0,s1,hs⟩⟩
  have ht:x=a.at b t:=ht
  have hs:x=c.at d s:=hs
  by_cases q1:OnS ⟨a,b⟩ c
  ·exact .inl (.inl (.inl (.inl ((o1 c).2 q1))))
  by_cases q2:OnS ⟨a,b⟩ d
  ·exact .inl (.inl (.inl (.inr ((o1 d).2 q2))))
  by_cases q3:OnS ⟨c,d⟩ a
  ·exact .inl (.inl (.inr ((o2 a).2 q3)))
  by_cases q4:OnS ⟨c,d⟩ b
  ·exact .inl (.inr ((o2 b).2 q4))
  right
  have hx:=congrArg Pq.x (ht.symm.trans hs)
  have hy:=congrArg Pq.y (ht.symm.trans hs)
  simp only [Pq.at,Pq.add,Pq.scale,Pq.sub] at hx hy
  have onx:OnS ⟨a,b⟩ x:=⟨t,t0,t1,ht⟩
  have onx2:OnS ⟨c,d⟩ x:=⟨s,s0,s1,hs⟩
  have ts:t ≠ 0:=fun e=>q3 (by
   have:x=a:=by rw [ht,e]; exact Pq.ext' (by simp only [Pq.at,Pq.add,Pq.scale,Pq.sub]; grind) (by simp only [Pq.at,Pq.add,Pq.scale,Pq.sub]; grind)
   exact this ▸ onx2)
  have ts1:t ≠ 1:=fun e=>q4 (by
   have:x=b:=by rw [ht,e]; exact Pq.ext' (by simp only [Pq.at,Pq.add,Pq.scale,Pq.sub]; grind) (by simp only [Pq.at,Pq.add,Pq.scale,Pq.sub]; grind)
   exact this ▸ onx2)
  have ss:s ≠ 0:=fun e=>q1 (by
   have:x=c:=by rw [hs,e]; exact Pq.ext' (by simp only [Pq.at,Pq.add,Pq.scale,Pq.sub]; grind) (by simp only [Pq.at,Pq.add,Pq.scale,Pq.sub]; grind)
   exact this ▸ onx)
  have ss1:s ≠ 1:=fun e=>q2 (by
   have:x=d:=by rw [hs,e]; exact Pq.ext' (by simp only [Pq.at,Pq.add,Pq.scale,Pq.sub]; grind) (by simp only [Pq.at,Pq.add,Pq.scale,Pq.sub]; grind)
   exact this ▸ onx)
  obtain ⟨p1,hp1⟩:∃ p,p=(b.sub a).cross (c.sub a):=⟨_,rfl⟩
  obtain ⟨p2,hp2⟩:∃ p,p=(b.sub a).cross (d.sub a):=⟨_,rfl⟩
  obtain ⟨r1,hr1⟩:∃ p,p=(d.sub c).cross (a.sub c):=⟨_,rfl⟩
  obtain ⟨r2,hr2⟩:∃ p,p=(d.sub c).cross (b.sub c):=⟨_,rfl⟩
  have eP:(1 - s)*p1+s*p2=0:=by rw [hp1,hp2]; simp only [Pq.cross,Pq.sub]; grind
  have eR:(1 - t)*r1+t*r2=0:=by rw [hr1,hr2]; simp only [Pq.cross,Pq.sub]; grind
  have opp:∀ {k x y:Rat},0 < k->0 < 1 - k->(1 - k)*x+k*y=0->x ≠ 0->x*y < 0:=by
   intro k x y k0 k1 e hx
   have hxx:0 < x*x:=by
    have:=sqn x
    have:x*x ≠ 0:=fun c=>by rcases Rat.mul_eq_zero.1 c with c | c<;>exact hx c
    grind
   have h1:=Rat.mul_pos k1 hxx
   apply Classical.byContradiction
   intro c
   have h2:=Rat.mul_nonneg (Rat.le_of_lt k0) (show 0<=x*y by grind)
   have h3:(1 - k)*(x*x)+k*(x*y)=0:=by
    have:(1 - k)*(x*x)+k*(x*y)=x*((1 - k)*x+k*y):=by grind
    rw [this,e,Rat.mul_zero]
   grind
  -- on one line an end of one lies on the other
  have hcol:p1 ≠ 0:=by
   intro e
   have e2:p2=0:=by
    have:s*p2=0:=by rw [e] at eP; grind
    rcases Rat.mul_eq_zero.1 this with c | c
    ·exact absurd c ss
    ·exact c
   -- coordinates along ab
   obtain ⟨ux,hux⟩:∃ u,u=b.x - a.x:=⟨_,rfl⟩
   obtain ⟨uy,huy⟩:∃ u,u=b.y - a.y:=⟨_,rfl⟩
   have hu0:¬ (ux=0/\uy=0):=fun h=>hab (Pq.ext' (by grind) (by grind))
   have hp:ux*ux+uy*uy ≠ 0:=by
    intro h
    have s1:=sqn ux
    have s2:=sqn uy
    have z1:ux*ux=0:=by grind
    have z2:uy*uy=0:=by grind
    apply hu0
    constructor
    ·rcases Rat.mul_eq_zero.1 z1 with c | c<;>exact c
    ·rcases Rat.mul_eq_zero.1 z2 with c | c<;>exact c
   have par:∀ q:Pq,(b.sub a).cross (q.sub a)=0->∃ k:Rat,q.x=a.x+ux*k/\q.y=a.y+uy*k:=by
    intro q hq
    have hq:ux*(q.y - a.y) - uy*(q.x - a.x)=0:=by rw [hux,huy]; exact hq
    obtain ⟨k,hk⟩:∃ k,k=(ux*(q.x - a.x)+uy*(q.y - a.y)) / (ux*ux+uy*uy):=⟨_,rfl⟩
    have hkm:k*(ux*ux+uy*uy)=ux*(q.x - a.x)+uy*(q.y - a.y):=by rw [hk]; exact Rat.div_mul_cancel hp
    refine ⟨k,?_,?_⟩
    ·have:(q.x - a.x - ux*k)*(ux*ux+uy*uy)=0:=by grind
     rcases Rat.mul_eq_zero.1 this with c | c
     ·grind
     ·exact absurd c hp
    ·have:(q.y - a.y - uy*k)*(ux*ux+uy*uy)=0:=by grind
     rcases Rat.mul_eq_zero.1 this with c | c
     ·grind
     ·exact absurd c hp
   obtain ⟨g,gx,gy⟩:=par c (by rw [<-hp1]; exact e)
   obtain ⟨h,hx',hy'⟩:=par d (by rw [<-hp2]; exact e2)
   have onk:∀ (q:Pq) (k:Rat),q.x=a.x+ux*k->q.y=a.y+uy*k->0<=k->k<=1->OnS ⟨a,b⟩ q:=fun q k h1 h2 h3 h4=>
    ⟨k,h3,h4,Pq.ext' (by simp only [Pq.at,Pq.add,Pq.scale,Pq.sub]; rw [h1,hux]) (by simp only [Pq.at,Pq.add,Pq.scale,Pq.sub]; rw [h2,huy])⟩
   have ng:g < 0\/1 < g:=by
    apply Classical.byContradiction
    intro c; exact q1 (onk _ g gx gy (by grind) (by grind))
   have nh:h < 0\/1 < h:=by
    apply Classical.byContradiction
    intro c; exact q2 (onk _ h hx' hy' (by grind) (by grind))
   have et:t=g+(h - g)*s:=by
    have k1:ux*(t - (g+(h - g)*s))=0:=by rw [hux] at *; grind
    have k2:uy*(t - (g+(h - g)*s))=0:=by rw [huy] at *; grind
    by_cases z:ux=0
    ·have:uy ≠ 0:=fun z2=>hu0 ⟨z,z2⟩
     rcases Rat.mul_eq_zero.1 k2 with c | c
     ·exact absurd c this
     ·grind
    ·rcases Rat.mul_eq_zero.1 k1 with c | c
     ·exact absurd c z
     ·grind
   have sp:=Rat.mul_nonneg s0 (show 0<=1 - s by grind)
   -- a lies between c and d
   have hgh:h ≠ g:=by
    intro z
    rw [z] at et
    have:t=g:=by grind
    rcases ng with c | c<;>grind
   have ina:OnS ⟨c,d⟩ a:=by
    rcases ng with c1 | c1
    ·have c2:1 < h:=by
      rcases nh with c2 | c2
      ·exfalso
       have:=Rat.mul_nonneg s0 (show 0 <= -h by grind)
       have:=Rat.mul_nonneg (show 0<=1 - s by grind) (show 0 <= -g by grind)
       grind
      ·exact c2
     have hd:0 < h - g:=by grind
     obtain ⟨k,hk⟩:∃ k,k=(-g) / (h - g):=⟨_,rfl⟩
     have hkm:k*(h - g) = -g:=by rw [hk]; exact Rat.div_mul_cancel (by grind)
     have k0:0<=k:=by
      apply Classical.byContradiction
      intro z
      have:=Rat.mul_pos (show 0 < -k by grind) hd
      grind
     have k1:k<=1:=by
      apply Classical.byContradiction
      intro z
      have:=Rat.mul_pos (show 0 < k - 1 by grind) hd
      grind
     refine ⟨k,k0,k1,Pq.ext' ?_ ?_⟩
     ·simp only [Pq.at,Pq.add,Pq.scale,Pq.sub]; rw [gx,hx']; grind
     ·simp only [Pq.at,Pq.add,Pq.scale,Pq.sub]; rw [gy,hy']; grind
    ·have c2:h < 0:=by
      rcases nh with c2 | c2
      ·exact c2
      ·exfalso
       have:=Rat.mul_nonneg s0 (show 0<=h - 1 by grind)
       have:=Rat.mul_nonneg (show 0<=1 - s by grind) (show 0<=g - 1 by grind)
       grind
     have hd:0 < g - h:=by grind
     obtain ⟨k,hk⟩:∃ k,k=g / (g - h):=⟨_,rfl⟩
     have hkm:k*(g - h)=g:=by rw [hk]; exact Rat.div_mul_cancel (by grind)
     have k0:0<=k:=by
      apply Classical.byContradiction
      intro z
      have:=Rat.mul_pos (show 0 < -k by grind) hd
      grind
     have k1:k<=1:=by
      apply Classical.byContradiction
      intro z
      have:=Rat.mul_pos (show 0 < k - 1 by grind) hd
      grind
     refine ⟨k,k0,k1,Pq.ext' ?_ ?_⟩
     ·simp only [Pq.at,Pq.add,Pq.scale,Pq.sub]; rw [gx,hx']; grind
     ·simp only [Pq.at,Pq.add,Pq.scale,Pq.sub]; rw [gy,hy']; grind
   exact q3 ina
  have hcol2:r1 ≠ 0:=by
   intro e
   have:(1 - t)*r1+t*r2=0:=eR
   have e2:r2=0:=by
    have:t*r2=0:=by rw [e] at eR; grind
    rcases Rat.mul_eq_zero.1 this with c | c
    ·exact absurd c ts
    ·exact c
   apply hcol
   -- a and b lie on the line cd, so c lies on the line ab
   have hv0:¬ (d.x - c.x=0/\d.y - c.y=0):=fun h=>hcd (Pq.ext' (by grind) (by grind))
   have f1:(d.x - c.x)*(a.y - c.y) - (d.y - c.y)*(a.x - c.x)=0:=by rw [<-e,hr1]; simp only [Pq.cross,Pq.sub]
   have f2:(d.x - c.x)*(b.y - c.y) - (d.y - c.y)*(b.x - c.x)=0:=by rw [<-e2,hr2]; simp only [Pq.cross,Pq.sub]
   have g1:p1*(d.x - c.x)=0:=by
    rw [hp1]; simp only [Pq.cross,Pq.sub]
    generalize d.x - c.x=vx at *
    generalize d.y - c.y=vy at *
    have:(b.x - a.x)*(c.y - a.y) - (b.y - a.y)*(c.x - a.x)=(a.x - c.x)*(b.y - c.y) - (a.y - c.y)*(b.x - c.x):=by grind
    rw [this]
    generalize a.x - c.x=A at *
    generalize a.y - c.y=B at *
    generalize b.x - c.x=C at *
    generalize b.y - c.y=D at *
    have:(A*D - B*C)*vx=A*(vx*D - vy*C) - C*(vx*B - vy*A):=by grind
    rw [this,f1,f2]; grind
   have g2:p1*(d.y - c.y)=0:=by
    rw [hp1]; simp only [Pq.cross,Pq.sub]
    generalize d.x - c.x=vx at *
    generalize d.y - c.y=vy at *
    have:(b.x - a.x)*(c.y - a.y) - (b.y - a.y)*(c.x - a.x)=(a.x - c.x)*(b.y - c.y) - (a.y - c.y)*(b.x - c.x):=by grind
    rw [this]
    generalize a.x - c.x=A at *
    generalize a.y - c.y=B at *
    generalize b.x - c.x=C at *
    generalize b.y - c.y=D at *
    have:(A*D - B*C)*vy=B*(vx*D - vy*C) - D*(vx*B - vy*A):=by grind
    rw [this,f1,f2]; grind
   rcases Rat.mul_eq_zero.1 g1 with c1 | c1
   ·exact c1
   ·rcases Rat.mul_eq_zero.1 g2 with c2 | c2
    ·exact c2
    ·exact absurd ⟨c1,c2⟩ hv0
  have a1:=opp (show 0 < s by grind) (show 0 < 1 - s by grind) eP hcol
  have a2:=opp (show 0 < t by grind) (show 0 < 1 - t by grind) eR hcol2
  unfold orQ
  rw [cmpQ_mul_neg,cmpQ_mul_neg,<-hp1,<-hp2,<-hr1,<-hr2]
  exact ⟨a1,a2⟩
theorem meetD_eq {a b c d:Pq} (hab:a ≠ b) (hcd:c ≠ d):meetD a b c d=meetB ⟨a,b⟩ ⟨c,d⟩:=by
 rw [Bool.eq_iff_iff,meetD_on hab hcd]
 have hw:¬ wrongQ ⟨a,b⟩ ⟨c,d⟩=true:=by
  rw [wrongQ_iff]; rintro (h | h)
  ·exact hab h
  ·exact hcd h
 unfold meetB
 rw [if_neg hw,Option.isSome_iff_exists]
 constructor
 ·rintro ⟨x,h1,h2⟩
  obtain ⟨m,hm,_⟩:=(meet_on (s:=⟨a,b⟩) (t:=⟨c,d⟩) hab hcd x).1 ⟨h1,h2⟩
  exact ⟨m,hm⟩
 ·rintro ⟨m,hm⟩
  have:=(meet_on (s:=⟨a,b⟩) (t:=⟨c,d⟩) hab hcd m.a).2 ⟨m,hm,at_on.1⟩
  exact ⟨m.a,this.1,this.2⟩
end Go.Proofs.YtkipmmiiackdaaaGreat.Sx
