/- Part 26 of what the statement needs: an executor of Go texts, arithmetic, and contracts of the functions that are called. -/
import Derived.Test.YtkipmmiiackdaaaGreatCi23
import Derived.Test.YtkipmmiiackdaaaGreatCi25
set_option linter.unusedSimpArgs false
set_option linter.unusedVariables false
set_option maxHeartbeats 8000000
set_option maxRecDepth 100000
namespace Go.Proofs.YtkipmmiiackdaaaGreat.Sx
open Env (std)
/-- The least of the first i vertices. -/
def firstTo (l:List Pq) (i:Nat):Nat:=(List.range i).foldl (fun k i=>if cmpP (at' l i) (at' l k) < 0 then i else k) 0
theorem firstTo_succ (l:List Pq) (i:Nat):firstTo l (i+1)=if cmpP (at' l i) (at' l (firstTo l i)) < 0 then i else firstTo l i:=by
 unfold firstTo; rw [List.range_succ,List.foldl_append]; rfl
theorem firstTo_le (l:List Pq):∀ i,firstTo l i<=i - 1
 | 0=>Nat.le_refl _
 | i+1=>by
  rw [firstTo_succ]
  have:=firstTo_le l i
  split<;>omega
structure FstI (ps:List Pt) (n i k:Int):Prop where
 h0:0<=i
 h1:i<=n
 k0:0<=k
 eq:k.toNat=firstTo (ps.map Pt.q) i.toNat
structure FstF (ps:List Pt) (n i k:Int) (p q:Pt) (m j:Int):Prop where
 in1:0<=i/\i < (ps.length:Int)
 in2:0<=k/\k < (ps.length:Int)
 g1:std.get Pt ps i zQ=p
 g2:std.get Pt ps k zQ=q
 c:Con Tryz.prog 120 [.v p.v,.v q.v] (.v (.int .i64 m))
 add:std.ib .add .i64 i 1=j
 lt:m < 0->FstI ps n j i
 ge:¬ m < 0->FstI ps n j k
 mu:(n - j).toNat < (n - i).toNat
theorem fstF_ex {k0:Nat} {ps:List Pt} (hp:∀ p ∈ ps,IsP k0 p p.q) (hl:ps.length<=4096) (hk:2*k0<=134217728) {n i k:Int} (hn:n=(ps.length:Int)) (h:FstI ps n i k) (hi:i < n):∃ p q m j,FstF ps n i k p q m j:=by
 have h0:=h.h0
 have hk0:=h.k0
 have hle:=firstTo_le (ps.map Pt.q) i.toNat
 rw [<-h.eq] at hle
 have b1:i.toNat < ps.length:=by omega
 have b2:k.toNat < ps.length:=by omega
 obtain ⟨m,em,km⟩:=vcmp_p (hp _ (getD_mem b1)) (hp _ (getD_mem b2)) (by omega)
 have e:(i+1).toNat=i.toNat+1:=by omega
 have hs:=firstTo_succ (ps.map Pt.q) i.toNat
 rw [<-h.eq,map_at b1,map_at b2,<-em,<-e] at hs
 exact ⟨ps.getD i.toNat zQ,ps.getD k.toNat zQ,m,i+1,⟨⟨h0,by omega⟩,⟨hk0,by omega⟩,rfl,rfl,km,by rw [s_add,w64 (by omega) (by omega)],fun c=>⟨by omega,by omega,h0,by rw [hs,if_pos c]⟩,fun c=>⟨by omega,by omega,hk0,by rw [hs,if_neg c]⟩,by omega⟩⟩
theorem first_q {k0:Nat} {ps:List Pt} (hp:∀ p ∈ ps,IsP k0 p p.q) (hl:ps.length<=4096) (hk:2*k0<=134217728):Con Tryz.prog 99 [.ro cP ps] (.v (.int .i64 (firstI (ps.map Pt.q):Nat))):=by
 obtain ⟨r0,e0⟩:∃ r:Int,r=(firstI (ps.map Pt.q):Nat):=⟨_,rfl⟩
 rw [<-e0]
 obtain ⟨n,hn⟩:∃ n:Int,n=ps.length:=⟨_,rfl⟩
 obtain ⟨i0,hi0⟩:∃ i:Int,i=0:=⟨_,rfl⟩
 have hp0:FstI ps n i0 i0:=⟨by omega,by omega,by omega,by rw [hi0]; rfl⟩
 have hrnd:∀ i k,FstI ps n i k->i < n->∃ p q m j,FstF ps n i k p q m j:=fun i k h h'=>fstF_ex hp hl hk hn h h'
 have hfin:∀ i k,FstI ps n i k->¬ i < n->k=r0:=fun i k h h'=>by
  have h1:=h.h1
  have h2:=h.k0
  have h3:=h.eq
  have e:i.toNat=(ps.map Pt.q).length:=by rw [List.length_map]; omega
  have e2:firstTo (ps.map Pt.q) (ps.map Pt.q).length=firstI (ps.map Pt.q):=rfl
  rw [e,e2] at h3
  omega
 clear e0
 refine Con.of ttOk mixed Tryz.func99 { ord:=[(5,[0,1,2,3,4,5,6])] } .nil 0 (by kernel_rfl) (fun P' E hP hE=>?_)
 cbv
 refine LoopTo.by (ι:=Int × Int) (fun x=>[(7,.v (.int .i64 n)),(8,.v (.int .i64 x.1)),(3,.v (.int .i64 x.2))]) (fun x=>[]) (fun x=>FstI ps n x.1 x.2) (fun x=>(n - x.1).toNat) (i0,i0) [] hp0 ?_ ?_
 ·cbv
  subst hE
  and_intros
  all_goals first
   | exact True.intro
   | rfl
   | exact vi hn.symm
   | exact vj hi0.symm
   | (simp; done)
 ·rintro ⟨i,k⟩ hi
  have hi:FstI ps n i k:=hi
  clear hp0
  cbv
  refine fork.mk ?_ ?_
  ·intro g
   have hlt:i < n:=by subst hE; simpa [std] using g
   refine Exists.elim (hrnd i k hi hlt) ?_
   intro p h
   refine Exists.elim h ?_
   intro q h
   refine Exists.elim h ?_
   intro m h
   refine Exists.elim h ?_
   intro j hf
   have in1:=hf.in1
   have in2:=hf.in2
   have hg1:=hf.g1
   have hg2:=hf.g2
   have kc:=hf.c
   have hadd:=hf.add
   have hlt9:=hf.lt
   have hge9:=hf.ge
   have hmu:=hf.mu
   clear hf h hi hlt g
   cbv
   refine Need.mk (by subst hE; exact in1) ?_
   cbv
   refine Need.mk (by subst hE; exact in2) ?_
   cbv
   refine CallTo.w hP hE kc ⟨(by subst hE; exact congrArg (fun p:Pt=>p.v) hg1),(by subst hE; exact congrArg (fun p:Pt=>p.v) hg2),trivial⟩ ?_
   cbv
   refine fork.mk ?_ ?_
   ·intro g
    have hst:=hlt9 (by subst hE; simpa [std] using g)
    cbv
    refine ⟨(j,i),[],hst,hmu,?_⟩
    cbv
    subst hE
    and_intros
    all_goals first
     | exact True.intro
     | rfl
     | exact vi hadd
     | exact vj hadd
     | (simp; done)
   ·intro g
    have hst:=hge9 (by subst hE; simpa [std] using g)
    cbv
    refine ⟨(j,k),[],hst,hmu,?_⟩
    cbv
    subst hE
    and_intros
    all_goals first
     | exact True.intro
     | rfl
     | exact vi hadd
     | exact vj hadd
     | (simp; done)
  ·intro g
   have hge:¬ i < n:=by subst hE; simpa [std] using g
   have hx:=hfin i k hi hge
   clear hi hge hfin hrnd g
   subst hx
   cbv
/-- flat's answer. -/
def flatI (l:List Pq):Int:=match (List.range l.length).find? (flatAt l) with
 | some i=>i
 | none => -1
theorem flatI_at {l:List Pq} {i:Nat} (hi:i < l.length) (h:∀ k,k < i->flatAt l k=false) (hf:flatAt l i=true):flatI l=i:=by
 unfold flatI
 have:(List.range l.length).find? (flatAt l)=some i:=by
  rw [List.find?_range_eq_some]
  exact ⟨hf,by simpa using hi,fun j hj=>by simp [h j hj]⟩
 rw [this]
theorem flatI_no {l:List Pq} (h:∀ k,k < l.length->flatAt l k=false):flatI l = -1:=by
 unfold flatI
 have:(List.range l.length).find? (flatAt l)=none:=by
  rw [List.find?_eq_none]
  intro x hx
  rw [h x (by simpa using hx)]; decide
 rw [this]
theorem flatI_iff (l:List Pq):0<=flatI l ↔ flatB l=true:=by
 unfold flatI flatB
 rw [List.any_eq_true]
 cases h:(List.range l.length).find? (flatAt l) with
 | none=>
  rw [List.find?_eq_none] at h
  constructor
  ·intro c; exact absurd c (by decide)
  ·rintro ⟨x,hx,e⟩; exact absurd e (h x hx)
 | some i=>exact ⟨fun _=>⟨i,List.mem_of_find?_eq_some h,List.find?_some h⟩,fun _=>Int.natCast_nonneg i⟩
theorem rel_next {p q r:Pq} (h:(q.sub p).cross (r.sub p) ≠ 0):RelE ⟨p,q⟩ ⟨q,r⟩:=by
 rintro x ⟨t,t0,t1,ht⟩ ⟨s,s0,s1,hs⟩
 left
 refine ⟨rfl,?_⟩
 have ht:x=p.at q t:=ht
 have hs:x=q.at r s:=hs
 have hx:=congrArg Pq.x (ht.symm.trans hs)
 have hy:=congrArg Pq.y (ht.symm.trans hs)
 simp only [Pq.at,Pq.add,Pq.scale,Pq.sub] at hx hy
 have:(1 - t)*((q.sub p).cross (r.sub p))=0:=by
  simp only [Pq.cross,Pq.sub]
  grind
 rcases Rat.mul_eq_zero.1 this with c | c
 ·have t1':t=1:=by grind
  rw [ht,t1']
  exact Pq.ext' (by simp only [Pq.at,Pq.add,Pq.scale,Pq.sub]; grind) (by simp only [Pq.at,Pq.add,Pq.scale,Pq.sub]; grind)
 ·exact absurd c h
theorem rel_far {e f:Sq} (he:e.a ≠ e.b) (hf:f.a ≠ f.b) (h:meetB e f=false):RelE e f:=by
 intro x h1 h2
 exfalso
 obtain ⟨m,hm,_⟩:=(meet_on he hf x).1 ⟨h1,h2⟩
 have hw:¬ wrongQ e f=true:=by
  rw [wrongQ_iff]; rintro (c | c)
  ·exact he c
  ·exact hf c
 unfold meetB at h
 rw [if_neg hw,hm] at h
 cases h
theorem smp_of {l:List Pq} (h3:3<=l.length) (hf:flatB l=false) (hc:crossB l=false):Smp l:=by
 obtain ⟨n,hn⟩:∃ n,n=l.length:=⟨_,rfl⟩
 have hcr:∀ i,i < n->((at' l i).sub (at' l ((i+n - 1) % n))).cross ((at' l ((i+1) % n)).sub (at' l ((i+n - 1) % n))) ≠ 0:=by
  intro i hi c
  unfold flatB at hf
  rw [List.any_eq_false] at hf
  have:=hf i (by simpa [<-hn] using hi)
  apply this
  unfold flatAt
  rw [decide_eq_true_iff,<-hn]
  unfold orQ
  rw [cmpQ_eq]; exact c
 have hnd:∀ i,i < n->(edgeQ l i).a ≠ (edgeQ l i).b:=by
  intro i hi c
  have h9:=hcr i hi
  unfold edgeQ at c
  simp only at c
  rw [<-hn] at c
  apply h9
  rw [<-c]
  simp only [Pq.cross,Pq.sub]; grind
 have hx:∀ i k,i < n->k < n->i+2<=k->¬ (i=0/\k=n - 1)->meetB (edgeQ l i) (edgeQ l k)=false:=by
  intro i k hi hk hik hne
  unfold crossB at hc
  rw [List.any_eq_false] at hc
  have h1:=hc i (by simpa [<-hn] using hi)
  rw [Bool.not_eq_true,List.any_eq_false] at h1
  have h2:=h1 k (by simpa [<-hn] using hk)
  rw [Bool.not_eq_true,Bool.and_eq_false_iff] at h2
  rcases h2 with h2 | h2
  ·rw [decide_eq_false_iff_not] at h2; exact absurd hik h2
  ·unfold crossAt at h2
   rw [<-hn,Bool.and_eq_false_iff] at h2
   rcases h2 with h2 | h2
   ·simp at h2
    exact absurd h2 hne
   ·exact h2
 refine ⟨h3,fun e he=>?_,?_⟩
 ·unfold edgesQ at he
  obtain ⟨i,hi,rfl⟩:=List.mem_map.1 he
  exact hnd i (by simpa [<-hn] using hi)
 ·rw [List.pairwise_iff_getElem]
  intro i k hi hk hik
  rw [edges_len,<-hn] at hi hk
  rw [edges_get (by rw [<-hn]; exact hi),edges_get (by rw [<-hn]; exact hk)]
  by_cases c1:k=i+1
  ·subst c1
   have h9:=hcr (i+1) hk
   have e1:(i+1+n - 1) % n=i:=by rw [show i+1+n - 1=i+n from by omega,Nat.add_mod_right,Nat.mod_eq_of_lt hi]
   rw [e1] at h9
   have e2:edgeQ l i=⟨at' l i,at' l (i+1)⟩:=by unfold edgeQ; rw [<-hn,Nat.mod_eq_of_lt hk]
   have e3:edgeQ l (i+1)=⟨at' l (i+1),at' l ((i+1+1) % n)⟩:=by unfold edgeQ; rw [<-hn]
   rw [e2,e3]
   exact rel_next h9
  ·by_cases c2:i=0/\k=n - 1
   ·obtain ⟨rfl,rfl⟩:=c2
    have h9:=hcr 0 hi
    have e1:(0+n - 1) % n=n - 1:=by rw [Nat.zero_add,Nat.mod_eq_of_lt (by omega)]
    have e4:(0+1) % n=1:=Nat.mod_eq_of_lt (by omega)
    rw [e1,e4] at h9
    have e2:edgeQ l 0=⟨at' l 0,at' l 1⟩:=by unfold edgeQ; rw [<-hn,e4]
    have e3:edgeQ l (n - 1)=⟨at' l (n - 1),at' l 0⟩:=by unfold edgeQ; rw [<-hn,show n - 1+1=n from by omega,Nat.mod_self]
    rw [e2,e3]
    exact (rel_next h9).symm
   ·exact rel_far (hnd i hi) (hnd k hk) (hx i k hi hk (by omega) c2)
/-- The first point that is to be removed. -/
def needI (l:List Pq):Option Nat:=(List.range l.length).find? (remAt l)
def simpF:Nat->List Pq->List Pq
 | 0,l=>l
 | n+1,l=>if l.length < 3 then l else match needI l with
  | none=>l
  | some i=>simpF n (l.eraseIdx i)
def simpQ (l:List Pq):List Pq:=simpF l.length l
theorem simpQ_stop {l:List Pq} (h:l.length < 3):simpQ l=l:=by
 unfold simpQ
 cases e:l.length with
 | zero=>rfl
 | succ n=>rw [simpF,if_pos h]
theorem need_at {l:List Pq} {i:Nat} (hi:i < l.length) (h:∀ k,k < i->remAt l k=false) (hf:remAt l i=true):needI l=some i:=by
 unfold needI
 rw [List.find?_range_eq_some]
 exact ⟨hf,by simpa using hi,fun j hj=>by simp [h j hj]⟩
theorem need_no {l:List Pq} (h:∀ k,k < l.length->remAt l k=false):needI l=none:=by
 unfold needI
 rw [List.find?_eq_none]
 intro x hx
 rw [h x (by simpa using hx)]; decide
theorem need_lt {l:List Pq} {i:Nat} (h:needI l=some i):i < l.length:=by
 unfold needI at h
 simpa using List.mem_of_find?_eq_some h
theorem simpQ_none {l:List Pq} (h:needI l=none):simpQ l=l:=by
 unfold simpQ
 cases e:l.length with
 | zero=>rfl
 | succ n=>
  rw [simpF]
  split
  ·rfl
  ·rw [h]
theorem simpQ_some {l:List Pq} {i:Nat} (h3:3<=l.length) (h:needI l=some i):simpQ (l.eraseIdx i)=simpQ l:=by
 have hi:=need_lt h
 obtain ⟨n,hn⟩:∃ n,l.length=n+1:=⟨l.length - 1,by omega⟩
 have he:(l.eraseIdx i).length=n:=by rw [List.length_eraseIdx,if_pos hi]; omega
 unfold simpQ
 rw [he,hn,simpF,if_neg (by omega),h]
/-- What Canonical answers. -/
def canE (c:Bool) (l:List Pq):Int:=
 if 64 < l.length then 4 else if c=false then 1 else if (simpQ l).length < 3 then 12 else if crossB (simpQ l)=true then 13 else 0
def turnQ (l:List Pq):List Pq:=if cmpQ (areaQ l) 0 < 0 then l.reverse else l
def rotQ (l:List Pq):List Pq:=l.drop (firstI l)++l.take (firstI l)
def canQ (l:List Pq):List Pq:=rotQ (turnQ (simpQ l))
theorem simpF_sub:∀ (n:Nat) (l:List Pq) (p:Pq),p ∈ simpF n l->p ∈ l
 | 0,l,p,h=>h
 | n+1,l,p,h=>by
  rw [simpF] at h
  split at h
  ·exact h
  ·split at h
   ·exact h
   ·exact List.mem_of_mem_eraseIdx (simpF_sub n _ p h)
theorem simpQ_sub {l:List Pq} {p:Pq} (h:p ∈ simpQ l):p ∈ l:=simpF_sub _ _ _ h
theorem simpF_len:∀ (n:Nat) (l:List Pq),(simpF n l).length<=l.length
 | 0,l=>Nat.le_refl _
 | n+1,l=>by
  rw [simpF]
  split
  ·exact Nat.le_refl _
  ·split
   ·exact Nat.le_refl _
   ·exact Nat.le_trans (simpF_len n _) (List.length_eraseIdx_le _ _)
theorem simpQ_len (l:List Pq):(simpQ l).length<=l.length:=simpF_len _ _
theorem firstI_lt {l:List Pq} (h:1<=l.length):firstI l < l.length:=by
 have key:∀ n,1<=n->(List.range n).foldl (fun k i=>if cmpP (at' l i) (at' l k) < 0 then i else k) 0 < n:=by
  intro n
  induction n with
  | zero=>intro h; omega
  | succ n ih=>
   intro _
   rw [List.range_succ,List.foldl_append]
   show (if _ then n else _) < n+1
   split
   ·omega
   ·by_cases c:n=0
    ·subst c; exact Nat.zero_lt_one
    ·have:=ih (by omega); omega
 exact key _ h
/-- The row and the list that a round of simplify holds: the first L of the row are the list. -/
structure SimI (l0:List Pq) (N:Nat) (L:Int) (zs:List Pt) (l:List Pq):Prop where
 len:L=l.length
 zl:zs.length=N
 le:l.length<=N
 eq:zs.take l.length=l.map crP
 si:simpQ l=simpQ l0
 sub:∀ p ∈ l,p ∈ l0
theorem SimI.get {l0:List Pq} {N:Nat} {L:Int} {zs:List Pt} {l:List Pq} (h:SimI l0 N L zs l) {i:Nat} (hi:i < l.length):zs.getD i zQ=crP (at' l i):=by
 have h1:(zs.take l.length)[i]?=zs[i]?:=by rw [List.getElem?_take,if_pos hi]
 rw [h.eq,List.getElem?_map,List.getElem?_eq_getElem hi] at h1
 rw [List.getD_eq_getElem?_getD,<-h1]
 unfold at'
 rw [List.getD_eq_getElem?_getD,List.getElem?_eq_getElem hi]; rfl
/-- Within a round: nothing so far. -/
structure SimL (l:List Pq) (L i:Int):Prop where
 h0:0<=i
 h1:i<=L
 no:∀ k,k < i.toNat->remAt l k=false
/-- What slices.Delete of one point asks for and yields. -/
structure DelF (zs:List Pt) (L i L1:Int) (R:List Pt):Prop where
 n1:std.rng i (std.ib .add .i64 i 1) L/\std.rng 0 L L
 f1:std.ic .eql i (std.ib .add .i64 i 1)=false
 n2:std.rng 0 i L
 n3:std.rng (std.ib .add .i64 i 1) L L
 n4:std.rng 0 (std.ad i (std.sb L (std.ib .add .i64 i 1))) (std.len Pt zs)
 n5:std.rng (std.ad i (std.sb L (std.ib .add .i64 i 1))) L (std.len Pt (std.app Pt (std.tk Pt zs i) (std.app Pt (std.wnd Pt zs (std.ib .add .i64 i 1) (std.sb L (std.ib .add .i64 i 1))) (std.wnd Pt zs (std.ad i (std.sb L (std.ib .add .i64 i 1))) (std.sb (std.len Pt zs) (std.ad i (std.sb L (std.ib .add .i64 i 1))))))))
 n6:std.rng 0 (std.ad (std.ad i (std.sb L (std.ib .add .i64 i 1))) (std.sb L (std.ad i (std.sb L (std.ib .add .i64 i 1))))) (std.len Pt (std.app Pt (std.tk Pt zs i) (std.app Pt (std.wnd Pt zs (std.ib .add .i64 i 1) (std.sb L (std.ib .add .i64 i 1))) (std.wnd Pt zs (std.ad i (std.sb L (std.ib .add .i64 i 1))) (std.sb (std.len Pt zs) (std.ad i (std.sb L (std.ib .add .i64 i 1))))))))
 ln:(std.ad i (std.sb L (std.ib .add .i64 i 1)))=L1
 row:std.app Pt (std.tk Pt (std.app Pt (std.tk Pt zs i) (std.app Pt (std.wnd Pt zs (std.ib .add .i64 i 1) (std.sb L (std.ib .add .i64 i 1))) (std.wnd Pt zs (std.ad i (std.sb L (std.ib .add .i64 i 1))) (std.sb (std.len Pt zs) (std.ad i (std.sb L (std.ib .add .i64 i 1))))))) (std.ad i (std.sb L (std.ib .add .i64 i 1)))) (std.app Pt (std.rep Pt (std.sb L (std.ad i (std.sb L (std.ib .add .i64 i 1)))) zQ) (std.wnd Pt (std.app Pt (std.tk Pt zs i) (std.app Pt (std.wnd Pt zs (std.ib .add .i64 i 1) (std.sb L (std.ib .add .i64 i 1))) (std.wnd Pt zs (std.ad i (std.sb L (std.ib .add .i64 i 1))) (std.sb (std.len Pt zs) (std.ad i (std.sb L (std.ib .add .i64 i 1))))))) (std.ad (std.ad i (std.sb L (std.ib .add .i64 i 1))) (std.sb L (std.ad i (std.sb L (std.ib .add .i64 i 1))))) (std.sb (std.len Pt (std.app Pt (std.tk Pt zs i) (std.app Pt (std.wnd Pt zs (std.ib .add .i64 i 1) (std.sb L (std.ib .add .i64 i 1))) (std.wnd Pt zs (std.ad i (std.sb L (std.ib .add .i64 i 1))) (std.sb (std.len Pt zs) (std.ad i (std.sb L (std.ib .add .i64 i 1)))))))) (std.ad (std.ad i (std.sb L (std.ib .add .i64 i 1))) (std.sb L (std.ad i (std.sb L (std.ib .add .i64 i 1))))))))=R
theorem DelF.of {zs:List Pt} {L i j:Int} (h0:0<=i) (h1:i < L) (h2:L<=zs.length) (h3:zs.length<=4096) (hj:j=i+1):DelF zs L i (L - 1) ((zs.take i.toNat++((zs.drop j.toNat).take (L - j).toNat++zs.drop (L - 1).toNat)).take (L - 1).toNat++(zQ::(zs.take i.toNat++((zs.drop j.toNat).take (L - j).toNat++zs.drop (L - 1).toNat)).drop L.toNat)):=by
 have eJ:(std.ib .add .i64 i 1)=j:=by rw [s_add,w64 (by omega) (by omega),hj]
 have eL:std.ad i (std.sb L j)=L - 1:=by show i+(L - j)=L - 1; omega
 have e1:std.sb L (L - 1)=1:=by show L - (L - 1)=1; omega
 have e2:std.ad (L - 1) 1=L:=by show L - 1+1=L; omega
 have eR:std.app Pt (std.tk Pt zs i) (std.app Pt (std.wnd Pt zs j (std.sb L j)) (std.wnd Pt zs (L - 1) (std.sb (std.len Pt zs) (L - 1))))=(zs.take i.toNat++((zs.drop j.toNat).take (L - j).toNat++zs.drop (L - 1).toNat)):=by
  show zs.take i.toNat++((zs.drop j.toNat).take (L - j).toNat++(zs.drop (L - 1).toNat).take ((zs.length:Int) - (L - 1)).toNat)=_
  rw [List.take_of_length_le (l:=zs.drop (L - 1).toNat) (by rw [List.length_drop]; omega)]
 have hRl:((zs.take i.toNat++((zs.drop j.toNat).take (L - j).toNat++zs.drop (L - 1).toNat))).length=zs.length:=by
  simp only [List.length_append,List.length_take,List.length_drop]; omega
 constructor
 ·rw [eJ]; exact ⟨⟨by omega,by omega,by omega⟩,⟨by omega,by omega,by omega⟩⟩
 ·rw [eJ]; exact decide_eq_false (by omega)
 ·exact ⟨by omega,by omega,by omega⟩
 ·rw [eJ]; exact ⟨by omega,by omega,by omega⟩
 ·rw [eJ,eL,s_len]; exact ⟨by omega,by omega,by omega⟩
 ·rw [eJ,eL,eR,s_len,hRl]; exact ⟨by omega,by omega,by omega⟩
 ·rw [eJ,eL,eR,e1,e2,s_len,hRl]; exact ⟨by omega,by omega,by omega⟩
 ·rw [eJ,eL]
 ·rw [eJ,eL,eR,e1,e2]
  show ((zs.take i.toNat++((zs.drop j.toNat).take (L - j).toNat++zs.drop (L - 1).toNat))).take (L - 1).toNat++(List.replicate (1:Int).toNat zQ++(((zs.take i.toNat++((zs.drop j.toNat).take (L - j).toNat++zs.drop (L - 1).toNat))).drop L.toNat).take ((((zs.take i.toNat++((zs.drop j.toNat).take (L - j).toNat++zs.drop (L - 1).toNat))).length:Int) - L).toNat)=_
  rw [List.take_of_length_le (l:=((zs.take i.toNat++((zs.drop j.toNat).take (L - j).toNat++zs.drop (L - 1).toNat))).drop L.toNat) (by rw [List.length_drop]; omega)]
  rfl
structure SimF (l0:List Pq) (N:Nat) (L:Int) (zs:List Pt) (l:List Pq) (i a b c j:Int) (p q r:Pt) (m:Int):Prop where
 in0:0<=a/\a < L
 in1:0<=i/\i < L
 in2:0<=c/\c < L
 nz:L ≠ 0
 e1:std.ib .add .i64 i L=b
 e2:std.ib .rem .i64 (std.ib .sub .i64 b 1) L=a
 e3:std.ib .add .i64 i 1=j
 e4:std.ib .rem .i64 j L=c
 g0:std.get Pt zs a zQ=p
 g1:std.get Pt zs i zQ=q
 g2:std.get Pt zs c zQ=r
 co:Con Tryz.prog 28 [.v p.v,.v q.v,.v r.v] (.v (.int .i64 m))
 rem:q=r\/m=0->3<=L->∃ L1 R l1,DelF zs L i L1 R/\SimI l0 N L1 R l1/\l1.length < l.length
 no:¬ q=r->¬ m=0->SimL l L j
 mu:(L - j).toNat < (L - i).toNat
theorem simF_ex {k0:Nat} {l0:List Pq} {N:Nat} {L:Int} {zs:List Pt} {l:List Pq} (hp:∀ p ∈ l0,IsP k0 (crP p) p) (hN:N<=4096) (hk:16*k0+16<=134217728) {i:Int} (h:SimI l0 N L zs l) (hL:SimL l L i) (hi:i < L):∃ a b c j p q r m,SimF l0 N L zs l i a b c j p q r m:=by
 have h0:=hL.h0
 have hle:=h.le
 have hlen:=h.len
 obtain ⟨n,hn⟩:∃ n:Nat,n=l.length:=⟨_,rfl⟩
 obtain ⟨u,hu⟩:∃ u:Nat,(u:Int)=i:=⟨i.toNat,by omega⟩
 have hLn:L=(n:Int):=by omega
 have l0':(u+n - 1) % n < n:=Nat.mod_lt _ (by omega)
 have l2:(u+1) % n < n:=Nat.mod_lt _ (by omega)
 have hm:∀ k,k < n->IsP k0 (crP (at' l k)) (at' l k):=fun k hk=>hp _ (h.sub _ (at_mem (by omega)))
 obtain ⟨m,em,km⟩:=orient_p (hm _ l0') (hm u (by omega)) (hm _ l2) (by omega)
 have hrm:remAt l u=(decide (cmpP (at' l u) (at' l ((u+1) % n))=0) || decide (m=0)):=by
  unfold remAt flatAt
  rw [<-hn,em]
 refine ⟨(((u+n - 1) % n:Nat):Int),i+L,(((u+1) % n:Nat):Int),i+1,crP (at' l ((u+n - 1) % n)),crP (at' l u),crP (at' l ((u+1) % n)),m,⟨by omega,by omega,by omega,by omega,?_,?_,?_,?_,?_,?_,?_,km,?_,?_,by omega⟩⟩
 ·rw [s_add,w64 (by omega) (by omega)]
 ·rw [s_sub,w64 (by omega) (by omega),s_rem]
  have e:(i+L - 1:Int)=((u+n - 1:Nat):Int):=by omega
  rw [e,hLn]
  have:Int.tmod ((u+n - 1:Nat):Int) (n:Int)=(((u+n - 1) % n:Nat):Int):=rfl
  rw [this]
 ·rw [s_add,w64 (by omega) (by omega)]
 ·rw [s_rem]
  have e:(i+1:Int)=((u+1:Nat):Int):=by omega
  rw [e,hLn]
  have:Int.tmod ((u+1:Nat):Int) (n:Int)=(((u+1) % n:Nat):Int):=rfl
  rw [this]
 ·show zs.getD ((((u+n - 1) % n:Nat):Int)).toNat zQ=_
  rw [Int.toNat_natCast]; exact h.get (by omega)
 ·show zs.getD i.toNat zQ=_
  rw [<-hu,Int.toNat_natCast]; exact h.get (by omega)
 ·show zs.getD ((((u+1) % n:Nat):Int)).toNat zQ=_
  rw [Int.toNat_natCast]; exact h.get (by omega)
 ·intro c h3
  have hf:remAt l u=true:=by
   rw [hrm,Bool.or_eq_true,decide_eq_true_iff,decide_eq_true_iff]
   rcases c with c | c
   ·exact .inl (cmpP_eq.2 (crP_iff.1 c))
   ·exact .inr c
  have hne:=need_at (by omega) (fun k hk=>hL.no k (by omega)) hf
  have hs:=simpQ_some (by omega) hne
  have eu:i.toNat=u:=by omega
  have hel:(l.eraseIdx u).length=n - 1:=by rw [List.length_eraseIdx,if_pos (by omega)]; omega
  refine ⟨L - 1,_,l.eraseIdx u,DelF.of (j:=i+1) h0 hi (by have:=h.zl; omega) (by have:=h.zl; omega) rfl,?_,by omega⟩
  rw [eu]
  refine ⟨by omega,?_,by omega,?_,hs.trans h.si,fun p hp=>h.sub p (List.mem_of_mem_eraseIdx hp)⟩
  ·have:=h.zl
   simp only [List.length_append,List.length_take,List.length_drop,List.length_cons]; omega
  ·have hz:=h.zl
   have e1:(L - 1).toNat=n - 1:=by omega
   have e2:(i+1).toNat=u+1:=by omega
   have e3:(L - (i+1)).toNat=n - (u+1):=by omega
   rw [hel,e1,e2,e3,List.take_append_of_le_length (by simp only [List.length_take,List.length_append,List.length_drop]; omega),List.take_take,Nat.min_self]
   rw [<-List.append_assoc,List.take_append_of_le_length (by simp only [List.length_take,List.length_append,List.length_drop]; omega),List.take_of_length_le (by simp only [List.length_take,List.length_append,List.length_drop]; omega)]
   rw [List.eraseIdx_eq_take_drop_succ,List.map_append,List.map_take,List.map_drop,<-h.eq,<-hn,List.take_take,List.drop_take,Nat.min_eq_left (by omega)]
 ·intro c1 c2
  refine ⟨by omega,by omega,fun k hk=>?_⟩
  by_cases e:k=u
  ·rw [e,hrm,decide_eq_false (fun c=>c1 (by rw [cmpP_eq.1 c])),decide_eq_false c2]; rfl
  ·exact hL.no k (by omega)
theorem take_get {zs:List Pt} {l:List Pq} (h:zs.take l.length=l.map crP) {i:Nat} (hi:i < l.length):zs.getD i zQ=crP (at' l i):=by
 have h1:(zs.take l.length)[i]?=zs[i]?:=by rw [List.getElem?_take,if_pos hi]
 rw [h,List.getElem?_map,List.getElem?_eq_getElem hi] at h1
 rw [List.getD_eq_getElem?_getD,<-h1]
 unfold at'
 rw [List.getD_eq_getElem?_getD,List.getElem?_eq_getElem hi]; rfl
/-- Reverse, on the first points of a row. -/
structure RvI (l0:List Pq) (N:Nat) (i j:Int) (zs:List Pt) (l:List Pq):Prop where
 h0:0<=i
 zl:zs.length=N
 eq:zs.take l.length=l.map crP
 rv:RevI l0 l i.toNat j
structure RvF (l0:List Pq) (N:Nat) (L i j:Int) (zs:List Pt) (w1 w2:Pt) (i' j':Int) (zs':List Pt) (l':List Pq):Prop where
 in1:0<=i/\i < L
 in2:0<=j/\j < L
 row:std.set Pt (std.set Pt zs i (std.get Pt zs j zQ)) j (std.get Pt zs i zQ)=zs'
 add:std.ib .add .i64 i 1=i'
 sub:std.ib .sub .i64 j 1=j'
 inv:RvI l0 N i' j' zs' l'
 mu:(j' - i').toNat < (j - i).toNat
theorem rvF_ex {l0:List Pq} {N:Nat} {L:Int} (hL:L=l0.length) (hl:l0.length<=4096) {i j:Int} {zs:List Pt} {l:List Pq} (h:RvI l0 N i j zs l) (hij:i < j):∃ w1 w2 i' j' zs' l',RvF l0 N L i j zs w1 w2 i' j' zs' l':=by
 have h0:=h.h0
 have h1:=h.rv.sum
 have h2:=h.rv.len
 have e:(i+1).toNat=i.toNat+1:=by omega
 have b1:i.toNat < l.length:=by omega
 have b2:j.toNat < l.length:=by omega
 refine ⟨zQ,zQ,i+1,j - 1,(zs.set i.toNat (crP (at' l j.toNat))).set j.toNat (crP (at' l i.toNat)),swp l i.toNat j.toNat,⟨⟨h0,by omega⟩,⟨by omega,by omega⟩,?_,by rw [s_add,w64 (by omega) (by omega)],by rw [s_sub,w64 (by omega) (by omega)],⟨by omega,?_,?_,?_⟩,by omega⟩⟩
 ·show (zs.set i.toNat (zs.getD j.toNat zQ)).set j.toNat (zs.getD i.toNat zQ)=_
  rw [take_get h.eq b1,take_get h.eq b2]
 ·rw [List.length_set,List.length_set]; exact h.zl
 ·rw [swp_len]
  unfold swp
  rw [List.take_set,List.take_set,h.eq,List.map_set,List.map_set]
 ·rw [e]
  exact h.rv.step (by omega)
theorem or_pos {a b c:Pq}:0 < orQ a b c ↔ 0 < crs a b c:=by
 unfold orQ; rw [cmpQ_gt]; rfl
theorem or_zero {a b c:Pq}:orQ a b c=0 ↔ crs a b c=0:=by
 unfold orQ; rw [cmpQ_eq]; rfl
/-- The same list, begun elsewhere. -/
def IsRot (X Y:List Pq):Prop:=∃ a b,X=a++b/\Y=b++a
theorem IsRot.symm {X Y:List Pq} (h:IsRot X Y):IsRot Y X:=by
 obtain ⟨a,b,h1,h2⟩:=h; exact ⟨b,a,h2,h1⟩
theorem IsRot.trans {X Y Z:List Pq} (h:IsRot X Y) (h':IsRot Y Z):IsRot X Z:=by
 obtain ⟨a,b,h1,h2⟩:=h
 obtain ⟨c,d,h3,h4⟩:=h'
 have e:b++a=c++d:=h2.symm.trans h3
 rcases List.append_eq_append_iff.1 e with ⟨t,e1,e2⟩ | ⟨t,e1,e2⟩
 ·-- c = b ++ t, a = t ++ d
  refine ⟨t,d++b,?_,?_⟩
  ·rw [h1,e2,List.append_assoc]
  ·rw [h4,e1,List.append_assoc]
 ·-- b = c ++ t, d = t ++ a
  refine ⟨a++c,t,?_,?_⟩
  ·rw [h1,e1,List.append_assoc]
  ·rw [h4,e2,List.append_assoc]
theorem IsRot.len {X Y:List Pq} (h:IsRot X Y):X.length=Y.length:=by
 obtain ⟨a,b,rfl,rfl⟩:=h; simp; omega
theorem IsRot.mem {X Y:List Pq} (h:IsRot X Y) {q:Pq}:q ∈ X ↔ q ∈ Y:=by
 obtain ⟨a,b,rfl,rfl⟩:=h; simp [or_comm]
theorem IsRot.rev {X Y:List Pq} (h:IsRot X Y):IsRot X.reverse Y.reverse:=by
 obtain ⟨a,b,rfl,rfl⟩:=h
 exact ⟨b.reverse,a.reverse,List.reverse_append,List.reverse_append⟩
theorem IsRot.of (X:List Pq) (k:Nat):IsRot X (X.drop k++X.take k):=⟨X.take k,X.drop k,(List.take_append_drop k X).symm,rfl⟩
theorem IsRot.area {X Y:List Pq} (h:IsRot X Y):areaQ Y=areaQ X:=by
 obtain ⟨a,b,rfl,rfl⟩:=h; exact area_rot a b
theorem IsRot.smp {X Y:List Pq} (h:IsRot X Y) (hs:Smp X):Smp Y:=by
 obtain ⟨a,b,rfl,rfl⟩:=h; exact hs.rot
theorem Smp.rev {l:List Pq} (h:Smp l):Smp l.reverse:=by
 have hp:=edges_rev l
 refine ⟨by rw [List.length_reverse]; exact h.n3,fun e he=>?_,?_⟩
 ·obtain ⟨f,hf,rfl⟩:=List.mem_map.1 (hp.mem_iff.1 he)
  exact fun c=>h.nd f hf c.symm
 ·refine (List.Perm.pairwise_iff (fun {x y}=>RelE.symm) hp).2 ?_
  rw [List.pairwise_map]
  exact h.pw.imp (fun hr=>hr.rev)
theorem at_lt {l:List Pq} {i:Nat} (h:i < l.length):l[i]?=some (at' l i):=by
 rw [List.getElem?_eq_getElem h]
 unfold at'; rw [List.getD_eq_getElem?_getD,List.getElem?_eq_getElem h]; rfl
theorem at_of {l:List Pq} {i:Nat} {q:Pq} (h:l[i]?=some q):at' l i=q:=by
 unfold at'; rw [List.getD_eq_getElem?_getD,h]; rfl
/-- The points of a list begun elsewhere. -/
theorem at_rot (a b:List Pq) {i:Nat} (hi:i < (a++b).length):at' (b++a) i=at' (a++b) ((a.length+i) % (a++b).length):=by
 apply at_of
 have hl:(a++b).length=a.length+b.length:=List.length_append
 by_cases h:i < b.length
 ·rw [List.getElem?_append_left h,Nat.mod_eq_of_lt (by omega),<-at_lt (by omega),List.getElem?_append_right (by omega)]
  congr 1; omega
 ·rw [List.getElem?_append_right (by omega),Nat.mod_eq_sub_mod (by omega),Nat.mod_eq_of_lt (by omega),<-at_lt (by omega),List.getElem?_append_left (by omega)]
  congr 1; omega
theorem flat_rot (a b:List Pq) {i:Nat} (hi:i < (a++b).length):flatAt (b++a) i=flatAt (a++b) ((a.length+i) % (a++b).length):=by
 have hl:(b++a).length=(a++b).length:=by simp; omega
 obtain ⟨n,hn⟩:∃ n,n=(a++b).length:=⟨_,rfl⟩
 unfold flatAt
 rw [hl,<-hn]
 rw [<-hn] at hi
 rw [at_rot a b (i:=i) (by omega),at_rot a b (i:=(i+n - 1) % n) (by rw [<-hn]; exact Nat.mod_lt _ (by omega)),at_rot a b (i:=(i+1) % n) (by rw [<-hn]; exact Nat.mod_lt _ (by omega)),<-hn]
 have e1:(a.length+(i+n - 1) % n) % n=((a.length+i) % n+n - 1) % n:=by
  rw [Nat.add_mod_mod,show (a.length+i) % n+n - 1=(a.length+i) % n+(n - 1) from by omega,Nat.mod_add_mod]
  congr 1; omega
 have e2:(a.length+(i+1) % n) % n=((a.length+i) % n+1) % n:=by
  rw [Nat.add_mod_mod,Nat.mod_add_mod]; congr 1
 rw [e1,e2]
/-- No three successive points on a line. -/
structure Gd (X:List Pq):Prop where
 n3:3<=X.length
 nf:∀ i,i < X.length->flatAt X i=false
theorem Gd.of {X:List Pq} (h3:3<=X.length) (hf:flatB X=false):Gd X:=by
 refine ⟨h3,fun i hi=>?_⟩
 unfold flatB at hf
 rw [List.any_eq_false] at hf
 exact (Bool.not_eq_true _).mp (hf i (by simpa using hi))
theorem Gd.flat {X:List Pq} (h:Gd X):flatB X=false:=by
 unfold flatB
 rw [List.any_eq_false]
 intro i hi
 rw [h.nf i (by simpa using hi)]; decide
theorem Gd.crs {X:List Pq} (h:Gd X) {i:Nat} (hi:i < X.length):crs (at' X ((i+X.length - 1) % X.length)) (at' X i) (at' X ((i+1) % X.length)) ≠ 0:=by
 intro c
 have:=h.nf i hi
 unfold flatAt at this
 rw [decide_eq_false_iff_not] at this
 exact this (cmpQ_eq.2 c)
theorem crs_ne {p q r:Pq} (h:crs p q r ≠ 0):p ≠ q/\q ≠ r/\p ≠ r:=by
 refine ⟨fun e=>h ?_,fun e=>h ?_,fun e=>h ?_⟩<;>subst e<;>simp only [Sx.crs,Pq.cross,Pq.sub]<;>grind
theorem Gd.rem {X:List Pq} (h:Gd X) {i:Nat} (hi:i < X.length):remAt X i=false:=by
 unfold remAt
 rw [h.nf i hi,decide_eq_false]; · rfl
 rw [cmpP_eq]
 exact (crs_ne (h.crs hi)).2.1
theorem Gd.rot {X Y:List Pq} (h:IsRot X Y) (hg:Gd X):Gd Y:=by
 obtain ⟨a,b,rfl,rfl⟩:=h
 have hl:(b++a).length=(a++b).length:=by simp; omega
 refine ⟨by rw [hl]; exact hg.n3,fun i hi=>?_⟩
 rw [hl] at hi
 rw [flat_rot a b hi]
 exact hg.nf _ (Nat.mod_lt _ (by omega))
theorem at_rvs {l:List Pq} {i:Nat} (hi:i < l.length):at' l.reverse i=at' l (l.length - 1 - i):=by
 apply at_of
 rw [List.getElem?_reverse hi,at_lt (by omega)]
theorem Gd.rev {X:List Pq} (h:Gd X):Gd X.reverse:=by
 obtain ⟨n,hn⟩:∃ n,n=X.length:=⟨_,rfl⟩
 have h3:=h.n3
 refine ⟨by rw [List.length_reverse]; exact h3,fun i hi=>?_⟩
 rw [List.length_reverse,<-hn] at hi
 have h1:=h.crs (i:=n - 1 - i) (by omega)
 unfold flatAt
 rw [List.length_reverse,<-hn]
 rw [<-hn] at h1 h3
 rw [at_rvs (i:=i) (by omega),at_rvs (i:=(i+n - 1) % n) (by rw [<-hn]; exact Nat.mod_lt _ (by omega)),at_rvs (i:=(i+1) % n) (by rw [<-hn]; exact Nat.mod_lt _ (by omega)),<-hn]
 rw [decide_eq_false_iff_not]
 intro c
 have c:=cmpQ_eq.1 c
 apply h1
 have e1:n - 1 - (i+n - 1) % n=(n - 1 - i+1) % n:=by
  by_cases e:i=0
  ·subst e
   rw [show 0+n - 1=n - 1 from by omega,Nat.mod_eq_of_lt (show n - 1 < n by omega),show n - 1 - 0+1=n from by omega,Nat.mod_self]; omega
  ·rw [show i+n - 1=(i - 1)+n from by omega,Nat.add_mod_right,Nat.mod_eq_of_lt (show i - 1 < n by omega),Nat.mod_eq_of_lt (show n - 1 - i+1 < n by omega)]; omega
 have e2:n - 1 - (i+1) % n=(n - 1 - i+n - 1) % n:=by
  by_cases e:i=n - 1
  ·subst e
   rw [show n - 1+1=n from by omega,Nat.mod_self,show n - 1 - (n - 1)+n - 1=n - 1 from by omega,Nat.mod_eq_of_lt (show n - 1 < n by omega)]; omega
  ·rw [Nat.mod_eq_of_lt (show i+1 < n by omega),show n - 1 - i+n - 1=(n - 1 - i - 1)+n from by omega,Nat.add_mod_right,Nat.mod_eq_of_lt (by omega)]; omega
 rw [e1,e2] at c
 have:=crs_anti (at' X ((n - 1 - i+n - 1) % n)) (at' X (n - 1 - i)) (at' X ((n - 1 - i+1) % n))
 have c:Sx.crs (at' X ((n - 1 - i+1) % n)) (at' X (n - 1 - i)) (at' X ((n - 1 - i+n - 1) % n))=0:=c
 grind
theorem Gd.need {X:List Pq} (h:Gd X):needI X=none:=need_no (fun k hk=>h.rem hk)
theorem Gd.simp {X:List Pq} (h:Gd X):simpQ X=X:=simpQ_none h.need
/-- Edges of a simple polygon that do not follow each other do not meet. -/
theorem cross_of_smp {l:List Pq} (h:Smp l):crossB l=false:=by
 obtain ⟨n,hn⟩:∃ n,n=l.length:=⟨_,rfl⟩
 have hd:=h.dist
 have hp:=h.pw
 rw [List.pairwise_iff_getElem] at hd hp
 have h3:=h.n3
 rw [<-hn] at h3
 have hne:∀ i k,i < n->k < n->i ≠ k->at' l i ≠ at' l k:=by
  intro i k hi hk hik c
  have g:∀ j,(hj:j < l.length)->at' l j=l[j]:=fun j hj=>by
   have:=at_lt hj; rw [List.getElem?_eq_getElem hj] at this; exact (Option.some.inj this).symm
  rw [g i (by omega),g k (by omega)] at c
  rcases Nat.lt_or_gt_of_ne hik with h' | h'
  ·exact hd i k (by omega) (by omega) h' c
  ·exact hd k i (by omega) (by omega) h' c.symm
 unfold crossB
 rw [List.any_eq_false]
 intro i hi
 have hi:i < n:=by simpa [<-hn] using hi
 rw [Bool.not_eq_true,List.any_eq_false]
 intro k hk
 have hk:k < n:=by simpa [<-hn] using hk
 rw [Bool.not_eq_true,Bool.and_eq_false_iff]
 by_cases c1:i+2<=k
 ·right
  unfold crossAt
  rw [<-hn,Bool.and_eq_false_iff]
  by_cases c2:i=0/\k=n - 1
  ·left; simp [c2]
  ·right
   have hr:=hp i k (by rw [edges_len]; omega) (by rw [edges_len]; omega) (by omega)
   rw [edges_get (by omega),edges_get (by omega)] at hr
   have ha:=h.nd _ (edge_mem (l:=l) (i:=i) (by omega))
   have hb:=h.nd _ (edge_mem (l:=l) (i:=k) (by omega))
   have hw:¬ wrongQ (edgeQ l i) (edgeQ l k)=true:=by
    rw [wrongQ_iff]; rintro (c | c)
    ·exact ha c
    ·exact hb c
   unfold meetB
   rw [if_neg hw]
   cases e:meetQ (edgeQ l i) (edgeQ l k) with
   | none=>rfl
   | some m=>
    exfalso
    obtain ⟨h1,h2⟩:=(meet_on ha hb m.a).2 ⟨m,e,at_on.1⟩
    rcases hr m.a h1 h2 with ⟨g,_⟩ | ⟨g,_⟩
    ·have g:at' l ((i+1) % l.length)=at' l k:=g
     rw [<-hn,Nat.mod_eq_of_lt (by omega)] at g
     exact hne (i+1) k (by omega) hk (by omega) g
    ·have g:at' l ((k+1) % l.length)=at' l i:=g
     rw [<-hn] at g
     by_cases c3:k+1=n
     ·rw [c3,Nat.mod_self] at g
      exact hne 0 i (by omega) hi (by omega) g
     ·rw [Nat.mod_eq_of_lt (by omega)] at g
      exact hne (k+1) i (by omega) hi (by omega) g
 ·left; rw [decide_eq_false c1]
theorem path_par (P:Pq) (f:Pq->Bool):∀ (l:List Pq) (p:Pq),(∀ e ∈ pathE p l,oddE P e=(f e.a != f e.b))->parE P (pathE p l)=(f p != f (endP p l))
 | [],p,_=>by show false=(f p != f p); cases f p<;>rfl
 | q::r,p,h=>by
  have h1:=path_par P f r q (fun e he=>h e (List.mem_cons_of_mem _ he))
  have h2:=h ⟨p,q⟩ List.mem_cons_self
  show parE P (⟨p,q⟩::pathE q r)=(f p != f (endP q r))
  rw [parE_cons,h1,h2]
  show ((f p != f q) != (f q != f (endP q r)))=_
  cases f p<;>cases f q<;>cases f (endP q r)<;>rfl
/-- Where each edge counts as its ends differ, the parity is even. -/
theorem odd_even {P:Pq} {l:List Pq} (f:Pq->Bool) (h:∀ e ∈ edgesQ l,oddE P e=(f e.a != f e.b)):oddQ l P=false:=by
 unfold oddQ
 cases l with
 | nil=>rfl
 | cons p r=>
  rw [edges_cons] at h ⊢
  rw [parE_app,path_par P f r p (fun e he=>h e (List.mem_append_left _ he)),parE_cons,h ⟨endP p r,p⟩ (by simp)]
  show ((f p != f (endP p r)) != ((f (endP p r) != f p) != false))=false
  cases f p<;>cases f (endP p r)<;>rfl
theorem edge_in {l:List Pq} {e:Sq} (h:e ∈ edgesQ l):e.a ∈ l/\e.b ∈ l:=by
 unfold edgesQ at h
 obtain ⟨i,hi,rfl⟩:=List.mem_map.1 h
 have hi:i < l.length:=by simpa using hi
 exact ⟨at_mem hi,at_mem (Nat.mod_lt _ (by omega))⟩
theorem upQ_iff {q p:Pq}:upQ q p=true ↔ p.y < q.y:=by
 unfold upQ
 rw [decide_eq_true_iff,cmpQ_gt]
/-- What it means that an edge crosses the ray to the right. -/
theorem oddE_iff {p:Pq} {e:Sq}:oddE p e=true ↔ (p.y < e.a.y/\¬ p.y < e.b.y/\0 < crs e.b e.a p)\/(¬ p.y < e.a.y/\p.y < e.b.y/\0 < crs e.a e.b p):=by
 unfold oddE
 have ha:=@upQ_iff e.a p
 have hb:=@upQ_iff e.b p
 have h1:=@or_pos e.b e.a p
 have h2:=@or_pos e.a e.b p
 by_cases c1:p.y < e.a.y<;>by_cases c2:p.y < e.b.y
 ·rw [ha.2 c1,hb.2 c2]; simp [c1,c2]
 ·rw [ha.2 c1,(Bool.not_eq_true _).mp (fun c=>c2 (hb.1 c))]; simp [c1,c2,h1]
 ·rw [(Bool.not_eq_true _).mp (fun c=>c1 (ha.1 c)),hb.2 c2]; simp [c1,c2,h2]
 ·rw [(Bool.not_eq_true _).mp (fun c=>c1 (ha.1 c)),(Bool.not_eq_true _).mp (fun c=>c2 (hb.1 c))]; simp [c1,c2]
def FarQ (l:List Pq) (p:Pq):Prop:=(∀ q ∈ l,q.x < p.x)\/(∀ q ∈ l,p.x < q.x)\/(∀ q ∈ l,q.y < p.y)\/(∀ q ∈ l,p.y < q.y)
theorem between {a b t:Rat} (h0:0<=t) (h1:t<=1) {m:Rat}:(a < m->b < m->a+(b - a)*t < m)/\(m < a->m < b->m < a+(b - a)*t):=by
 constructor
 ·intro ha hb
  have h3:=Rat.mul_nonneg (show 0<=m - b by grind) h0
  have h4:=Rat.mul_nonneg (show 0<=m - a by grind) (show 0<=1 - t by grind)
  by_cases c:t=0
  ·subst c; grind
  ·have h5:=Rat.mul_pos (show 0 < m - b by grind) (show 0 < t by grind)
   grind
 ·intro ha hb
  have h4:=Rat.mul_nonneg (show 0<=a - m by grind) (show 0<=1 - t by grind)
  by_cases c:t=0
  ·subst c; grind
  ·have h5:=Rat.mul_pos (show 0 < b - m by grind) (show 0 < t by grind)
   grind
theorem far_on {l:List Pq} {p:Pq} (h:FarQ l p):onE l p=false:=by
 unfold onE
 rw [List.any_eq_false]
 intro e he c
 obtain ⟨ha,hb⟩:=edge_in he
 obtain ⟨t,h0,h1,ht⟩:=(on_iff e p).1 c
 have hx:p.x=e.a.x+(e.b.x - e.a.x)*t:=by rw [ht]; rfl
 have hy:p.y=e.a.y+(e.b.y - e.a.y)*t:=by rw [ht]; rfl
 rcases h with h | h | h | h
 ·have:=(between h0 h1).1 (h _ ha) (h _ hb); grind
 ·have:=(between h0 h1).2 (h _ ha) (h _ hb); grind
 ·have:=(between h0 h1).1 (h _ ha) (h _ hb); grind
 ·have:=(between h0 h1).2 (h _ ha) (h _ hb); grind
theorem bool_ne {x:Bool} {p:Prop} (h:x=true ↔ p) (hp:¬ p):x=false:=by
 cases x with
 | false=>rfl
 | true=>exact absurd (h.1 rfl) hp
theorem far_odd {l:List Pq} {p:Pq} (h:FarQ l p):oddQ l p=false:=by
 rcases h with h | h | h | h
 ·refine odd_even (fun _=>false) (fun e he=>?_)
  obtain ⟨ha,hb⟩:=edge_in he
  refine bool_ne oddE_iff ?_
  have ha:=h _ ha
  have hb:=h _ hb
  simp only [crs,Pq.cross,Pq.sub]
  rintro (⟨c1,c2,c3⟩ | ⟨c1,c2,c3⟩)
  ·have h1:=Rat.mul_nonneg (show 0<=p.x - e.a.x by grind) (show 0<=p.y - e.b.y by grind)
   have h2:=Rat.mul_pos (show 0 < p.x - e.b.x by grind) (show 0 < e.a.y - p.y by grind)
   grind
  ·have h1:=Rat.mul_nonneg (show 0<=p.x - e.b.x by grind) (show 0<=p.y - e.a.y by grind)
   have h2:=Rat.mul_pos (show 0 < p.x - e.a.x by grind) (show 0 < e.b.y - p.y by grind)
   grind
 ·refine odd_even (fun q=>decide (p.y < q.y)) (fun e he=>?_)
  obtain ⟨ha,hb⟩:=edge_in he
  have ha:=h _ ha
  have hb:=h _ hb
  have hi:=@oddE_iff p e
  by_cases c1:p.y < e.a.y<;>by_cases c2:p.y < e.b.y
  ·rw [bool_ne hi (by simp [c1,c2])]; simp [c1,c2]
  ·rw [hi.2 (.inl ⟨c1,c2,?_⟩)]
   ·simp [c1,c2]
   ·have h1:=Rat.mul_nonneg (show 0<=e.a.x - p.x by grind) (show 0<=p.y - e.b.y by grind)
    have h2:=Rat.mul_pos (show 0 < e.b.x - p.x by grind) (show 0 < e.a.y - p.y by grind)
    simp only [crs,Pq.cross,Pq.sub]
    grind
  ·rw [hi.2 (.inr ⟨c1,c2,?_⟩)]
   ·simp [c1,c2]
   ·have h1:=Rat.mul_nonneg (show 0<=e.b.x - p.x by grind) (show 0<=p.y - e.a.y by grind)
    have h2:=Rat.mul_pos (show 0 < e.a.x - p.x by grind) (show 0 < e.b.y - p.y by grind)
    simp only [crs,Pq.cross,Pq.sub]
    grind
  ·rw [bool_ne hi (by simp [c1,c2])]; simp [c1,c2]
 ·refine odd_even (fun _=>false) (fun e he=>?_)
  obtain ⟨ha,hb⟩:=edge_in he
  have ha:=h _ ha
  have hb:=h _ hb
  refine bool_ne oddE_iff ?_
  rintro (⟨c1,c2,c3⟩ | ⟨c1,c2,c3⟩)<;>grind
 ·refine odd_even (fun _=>false) (fun e he=>?_)
  obtain ⟨ha,hb⟩:=edge_in he
  have ha:=h _ ha
  have hb:=h _ hb
  refine bool_ne oddE_iff ?_
  rintro (⟨c1,c2,c3⟩ | ⟨c1,c2,c3⟩)<;>grind
theorem far_side {l:List Pq} {p:Pq} (h:FarQ l p):sideQ l p = -1:=by
 unfold sideQ
 rw [far_on h,far_odd h]; rfl
theorem side_on {l:List Pq} {e:Sq} {p:Pq} (he:e ∈ edgesQ l) (h:OnS e p):sideQ l p=0:=by
 unfold sideQ onE
 rw [if_pos]
 rw [List.any_eq_true]
 exact ⟨e,he,(on_iff e p).2 h⟩
theorem on_first (e:Sq):OnS e e.a:=at_on.1
theorem on_half (e:Sq) {t:Rat} (h0:0<=t) (h1:t<=1):OnS e (e.a.at e.b t):=⟨t,h0,h1,rfl⟩
theorem drop_get {α:Type} {l:List α} {i:Nat} (z:α) (h:i < l.length):l.drop i=l.getD i z::l.drop (i+1):=by
 rw [List.drop_eq_getElem_cons h,List.getD_eq_getElem?_getD,List.getElem?_eq_getElem h]; rfl
/-- How far a point lies within a side of a box. -/
def bsdQ (b:Bq):Nat->Pq->Rat
 | 0,p=>p.x - b.lo.x
 | 1,p=>b.hi.x - p.x
 | 2,p=>p.y - b.lo.y
 | _,p=>b.hi.y - p.y
theorem BdB.side {k:Nat} {b:Bq} {p:Pq} (hb:BdB k b) (hp:BdP k p) (i:Nat):Bd (2*k+1) (bsdQ b i p):=by
 unfold bsdQ
 split
 ·exact (hp.x.sub hb.lo.x).mono (by omega)
 ·exact (hb.hi.x.sub hp.x).mono (by omega)
 ·exact (hp.y.sub hb.lo.y).mono (by omega)
 ·exact (hb.hi.y.sub hp.y).mono (by omega)
/-- Does a box contain a point? -/
def WithinP (b:Bq) (p:Pq):Prop:=b.lo.x<=p.x/\p.x<=b.hi.x/\b.lo.y<=p.y/\p.y<=b.hi.y
end Go.Proofs.YtkipmmiiackdaaaGreat.Sx
