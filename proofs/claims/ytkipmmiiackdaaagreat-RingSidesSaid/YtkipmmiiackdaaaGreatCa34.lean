/- Part 34 of what the statement needs: an executor of Go texts, arithmetic, and contracts of the functions that are called. -/
import Derived.Test.YtkipmmiiackdaaaGreatCa29
import Derived.Test.YtkipmmiiackdaaaGreatCa32
set_option linter.unusedSimpArgs false
set_option linter.unusedVariables false
set_option maxHeartbeats 8000000
set_option maxRecDepth 100000
namespace Go.Proofs.YtkipmmiiackdaaaGreat.Sx
open Env (std)
/-- Centroid's answer. -/
def cenP (ps:List Pt):Pt:=if chkA ps=0 then crP (centQ (ps.map Pt.q)) else zQ
def cenE (ps:List Pt):Int:=if chkA ps=0 then 0 else 1
structure CenI (ps:List Pt) (m:Nat) (n i:Int) (s:Pt):Prop where
 h0:0<=i
 h1:i<=n
 is:IsP m s (sumP centE ((edgesQ (ps.map Pt.q)).take i.toNat))
structure CenF (ps:List Pt) (m:Nat) (n i:Int) (s:Pt) (j r:Int) (p q a:Pt) (c:R) (d s':Pt):Prop where
 e:EdgF ps n i j r p q
 ad:Con Tryz.prog 27 [.v p.v,.v q.v] (.v a.v)
 cr:Con Tryz.prog 112 [.v p.v,.v q.v] (.v c.v)
 sc:Con Tryz.prog 31 [.v a.v,.v c.v] (.v d.v)
 ad2:Con Tryz.prog 27 [.v s.v,.v d.v] (.v s'.v)
 st:CenI ps m n j s'
theorem centE_bd {k:Nat} {e:Sq} (h:BdS k e):BdP (6*k+2) (centE e):=((h.a.add h.b).scale (crE_bd h)).mono (by omega)
theorem cen_bd {k:Nat} {l:List Pq} (hl:l.length<=64) (hp:∀ q ∈ l,BdP k q) (hk1:1<=k) (i:Nat):BdP (384*k+193) (sumP centE ((edgesQ l).take i)):=by
 have h:=sumP_bd (f:=centE) (m:=6*k+2) ((edgesQ l).take i) (fun e he=>centE_bd (edges_bd hp e (List.mem_of_mem_take he)))
 refine h.mono ?_
 have h2:((edgesQ l).take i).length<=64:=by rw [List.length_take,edges_len]; omega
 have h3:((edgesQ l).take i).length*(6*k+2+1)<=64*(6*k+3):=Nat.mul_le_mul_right _ h2
 omega
theorem cenF_ex {k:Nat} {ps:List Pt} (hp:∀ p ∈ ps,IsP k p p.q) (hl:ps.length<=64) (hk:40960*k+40960<=134217728) {n i:Int} {s:Pt} (hn:n=(ps.length:Int)) (h:CenI ps (384*k+193) n i s) (hi:i < n):∃ j r p q a c d s',CenF ps (384*k+193) n i s j r p q a c d s':=by
 obtain ⟨j,r,p,q,he⟩:=edgF_ex hn (by omega) h.h0 hi
 have hk1:1<=k:=(hp p he.m1).b.x.pos
 obtain ⟨a,ea,ha,ka⟩:=vadd_p (hp p he.m1) (hp q he.m2) (by omega)
 obtain ⟨c,ec,hc,kc⟩:=vcross_p (hp p he.m1) (hp q he.m2) (by omega)
 obtain ⟨d,ed,hd,kd⟩:=vscale_p ha hc (by omega)
 obtain ⟨s',es,hs,ks⟩:=vadd_p h.is hd (by omega)
 have e2:(sumP centE ((edgesQ (ps.map Pt.q)).take i.toNat)).add ((p.q.add q.q).scale (p.q.cross q.q))=sumP centE ((edgesQ (ps.map Pt.q)).take j.toNat):=by rw [he.st,sumP_snoc]; rfl
 refine ⟨j,r,p,q,a,c,d,s',he,ka,kc,kd,ks,he.j0,he.j1,?_⟩
 rw [es,e2]
 exact (cen_bd (by rw [List.length_map]; exact hl) (pts_bd hp) hk1 _).is
/-- What comes behind the loop. -/
structure CenG (ps:List Pt) (s:Pt) (r0:Pt) (x1 x6 ar m:R) (t:R) (e:Int):Prop where
 o1:Con Tryz.prog 44 [.v (.int .i64 1)] (.v x1.v)
 o6:Con Tryz.prog 44 [.v (.int .i64 6)] (.v x6.v)
 kar:Con Tryz.prog 32 [.ro cP ps] (.v ar.v)
 mu:Con Tryz.prog 46 [.v x6.v,.v ar.v] (.v m.v)
 qu:Con Tryz.prog 43 [.v x1.v,.v m.v] (.v (.tuple #[t.v,.int .i64 e]))
 sc:Con Tryz.prog 31 [.v s.v,.v t.v] (.v r0.v)
theorem cenG_ex {k:Nat} {ps:List Pt} (hp:∀ p ∈ ps,IsP k p p.q) (hl:ps.length<=64) (hk:40960*k+40960<=134217728) (hk1:1<=k) {n i:Int} {s:Pt} (hn:n=(ps.length:Int)) (h:CenI ps (384*k+193) n i s) (hi:¬ i < n):∃ x1 x6 ar m t e,CenG ps s (crP (centQ (ps.map Pt.q))) x1 x6 ar m t e:=by
 have k1:=ofQ_q 1 (by decide) (by decide)
 have k6:=ofQ_q 6 (by decide) (by decide)
 have h1:Is 8 (cr ((1:Int):Rat)) ((1:Int):Rat):=(bd_int (by decide)).is
 have h6:Is 8 (cr ((6:Int):Rat)) ((6:Int):Rat):=(bd_int (by decide)).is
 have ka:=area_q hp (by omega) hk hk1
 have ha:=(area_bd (l:=ps.map Pt.q) (by rw [List.length_map]; omega) (pts_bd hp) hk1).is
 obtain ⟨m,em,hm,km⟩:=mul_p h6 ha (by omega)
 obtain ⟨t,e,et,ht,_,kt⟩:=quo_p h1 hm (by omega)
 obtain ⟨d,ed,hd,kd⟩:=vscale_p h.is ht (by omega)
 have e2:d=crP (centQ (ps.map Pt.q)):=by
  rw [ed,edges_all (by rw [List.length_map]; have:=h.h1; omega)]; rfl
 rw [e2] at kd
 exact ⟨_,_,_,m,t,e,k1,k6,ka,km,kt,kd⟩
theorem centroid_q {k:Nat} {ps:List Pt} (hp:∀ p ∈ ps,IsP k p p.q) (hl:ps.length<=9223372036854775807) (hk:40960*k+40960<=134217728) (hk1:1<=k):Con Tryz.prog 26 [.ro cP ps] (.v (.tuple #[(cenP ps).v,.int .i64 (cenE ps)])):=by
 have kchk:=chk_a hp hl hk hk1
 have h64:chkA ps=0->ps.length<=64:=fun h=>Classical.byContradiction fun c=>by
  unfold chkA at h
  rw [if_pos (Or.inr (by omega))] at h
  exact absurd h (by decide)
 obtain ⟨n,hn⟩:∃ n:Int,n=ps.length:=⟨_,rfl⟩
 have hln:std.len Pt ps=n:=by rw [s_len,hn]
 obtain ⟨i0,hi0⟩:∃ i:Int,i=0:=⟨_,rfl⟩
 obtain ⟨s0,hs0⟩:∃ s:Pt,s=zQ:=⟨_,rfl⟩
 have hp0:CenI ps (384*k+193) n i0 s0:=⟨by omega,by omega,by
  rw [hs0,hi0]
  show IsP _ _ Pq.zero
  have hz:=(Bd.zero (k:=384*k+193) (by omega)).is
  have e:cr 0=⟨false,⟨#[]⟩,⟨#[]⟩⟩:=cr_zero
  rw [e] at hz; exact ⟨hz,hz⟩⟩
 have tk9:std.tk Pt ps (std.len Pt ps)=ps:=by rw [s_tk,s_len]; exact List.take_of_length_le (by omega)
 obtain ⟨r0,er⟩:∃ r:Pt,r=cenP ps:=⟨_,rfl⟩
 obtain ⟨e0,ee⟩:∃ r:Int,r=cenE ps:=⟨_,rfl⟩
 rw [<-er,<-ee]
 unfold cenP at er
 unfold cenE at ee
 obtain ⟨c,hc⟩:∃ c,c=chkA ps:=⟨_,rfl⟩
 rw [<-hc] at kchk er ee h64
 have hrnd:c=0->∀ i s,CenI ps (384*k+193) n i s->i < n->∃ j r p q a c d s',CenF ps (384*k+193) n i s j r p q a c d s':=fun hc i s h h'=>cenF_ex hp (h64 hc) hk hn h h'
 have hfin:c=0->∀ i s,CenI ps (384*k+193) n i s->¬ i < n->∃ x1 x6 ar m t e,CenG ps s r0 x1 x6 ar m t e:=fun hc i s h h'=>by
  rw [er,if_pos hc]
  exact cenG_ex hp (h64 hc) hk hk1 hn h h'
 have w1:¬ c=0->zQ=r0/\1=e0:=fun h=>⟨by rw [er,if_neg h],by rw [ee,if_neg h]⟩
 have w2:c=0->0=e0:=fun h=>by rw [ee,if_pos h]
 have w9:∀ {b b':Pt} {i i':Int},b=b'/\i=i'->Value.tuple #[b.v,.int .i64 i]=Value.tuple #[b'.v,.int .i64 i']:=fun h=>by rw [h.1,h.2]
 clear er ee hc h64 hp hl hk hk1
 refine Con.of ttOk mixed Tryz.func26 { ord:=[(7,[0,1,2,4,5,3,6,7,8,9])] } edges_ok 4 (by kernel_rfl) (fun P' E hP hE=>?_)
 cbv
 refine CallTo.w hP hE kchk ⟨(by subst hE; exact Sm.of (c:=cP) tk9),trivial⟩ ?_
 cbv
 refine fork.mk ?_ ?_
 ·intro g
  have c1:¬ c=0:=by subst hE; simpa [std] using g
  have hr:=w1 c1
  cbv
  exact w9 hr
 ·intro g
  have c1:c=0:=by subst hE; simpa [std] using g
  have hrnd:=hrnd c1
  have hfin:=hfin c1
  have w2:=w2 c1
  clear g
  cbv
  refine LoopTo.by (ι:=Int × Pt) (fun x=>[(6,.v (.int .i64 n)),(7,.v (.int .i64 x.1))]) (fun x=>[(2,.cells x.2.av 33)]) (fun x=>CenI ps (384*k+193) n x.1 x.2) (fun x=>(n - x.1).toNat) (i0,s0) [] hp0 ?_ ?_
  ·cbv
   subst hE
   and_intros
   all_goals first
    | exact True.intro
    | rfl
    | exact vi hn.symm
    | exact vj hi0.symm
    | exact congrArg (fun s:Pt=>AV.v (Value.bool s.x.neg)) hs0.symm
    | exact congrArg (fun s:Pt=>AV.v (Value.string s.x.num)) hs0.symm
    | exact congrArg (fun s:Pt=>AV.v (Value.string s.x.den)) hs0.symm
    | exact congrArg (fun s:Pt=>AV.v (Value.bool s.y.neg)) hs0.symm
    | exact congrArg (fun s:Pt=>AV.v (Value.string s.y.num)) hs0.symm
    | exact congrArg (fun s:Pt=>AV.v (Value.string s.y.den)) hs0.symm
    | (intro h; cases h; done)
  ·rintro ⟨i,s⟩ hi
   have hi:CenI ps (384*k+193) n i s:=hi
   clear hp0
   cbv
   refine fork.mk ?_ ?_
   ·intro g
    have hlt:i < n:=by subst hE; simpa [std] using g
    refine Exists.elim (hrnd i s hi hlt) ?_
    intro j h
    refine Exists.elim h ?_
    intro r h
    refine Exists.elim h ?_
    intro p h
    refine Exists.elim h ?_
    intro q h
    refine Exists.elim h ?_
    intro a h
    refine Exists.elim h ?_
    intro c h
    refine Exists.elim h ?_
    intro d h
    refine Exists.elim h ?_
    intro s' hf
    have hn:n=(ps.length:Int):=hn
    have in1:0<=i/\i < (ps.length:Int):=by rw [<-hn]; exact hf.e.in1
    have hadd:=hf.e.add
    have hnz:std.nz .rem (std.len Pt ps):=by show (ps.length:Int) ≠ 0; have:=hf.e.nz; rw [<-hn]; exact this
    have hrem:std.ib .rem .i64 (std.ib .add .i64 i 1) (std.len Pt ps)=r:=by rw [hadd,s_len,<-hn]; exact hf.e.rem
    have in2:0<=std.ib .rem .i64 (std.ib .add .i64 i 1) (std.len Pt ps)/\std.ib .rem .i64 (std.ib .add .i64 i 1) (std.len Pt ps) < (ps.length:Int):=by rw [hrem,<-hn]; exact hf.e.in2
    have hg1:=hf.e.g1
    have hg2:std.get Pt ps (std.ib .rem .i64 (std.ib .add .i64 i 1) (std.len Pt ps)) zQ=q:=by rw [hrem]; exact hf.e.g2
    have kad:=hf.ad
    have kcr:=hf.cr
    have ksc:=hf.sc
    have kad2:=hf.ad2
    have hst:=hf.st
    have hmu:=hf.e.mu
    clear hf h hi hlt g
    cbv
    refine Need.mk (by subst hE; exact in1) ?_
    cbv
    refine Need.mk (by subst hE; exact hnz) ?_
    cbv
    refine Need.mk (by subst hE; exact in2) ?_
    cbv
    refine CallTo.w hP hE kad ⟨(by subst hE; exact congrArg (fun p:Pt=>p.v) hg1),(by subst hE; exact congrArg (fun p:Pt=>p.v) hg2),trivial⟩ ?_
    cbv
    refine CallTo.w hP hE kcr ⟨(by subst hE; exact congrArg (fun p:Pt=>p.v) hg1),(by subst hE; exact congrArg (fun p:Pt=>p.v) hg2),trivial⟩ ?_
    cbv
    refine CallTo.w hP hE ksc ⟨rfl,rfl,trivial⟩ ?_
    cbv
    refine CallTo.w hP hE kad2 ⟨rfl,rfl,trivial⟩ ?_
    cbv
    refine ⟨(j,s'),[],hst,hmu,?_⟩
    cbv
    subst hE
    and_intros
    all_goals first
     | exact True.intro
     | rfl
     | exact vi hadd
     | exact vj hadd
     | (simp; done)
     | (intro h; cases h; done)
   ·intro g
    have hge:¬ i < n:=by subst hE; simpa [std] using g
    have hx:=hfin i s hi hge
    clear hi hge hfin hrnd g
    cbv
    refine Exists.elim hx ?_
    intro x1 h
    refine Exists.elim h ?_
    intro x6 h
    refine Exists.elim h ?_
    intro ar h
    refine Exists.elim h ?_
    intro m h
    refine Exists.elim h ?_
    intro t h
    refine Exists.elim h ?_
    intro e hf
    have k1:=hf.o1
    have k6:=hf.o6
    have ka:=hf.kar
    have km:=hf.mu
    have kq:=hf.qu
    have ks:=hf.sc
    clear hf h
    refine CallTo.w hP hE k1 ⟨rfl,trivial⟩ ?_
    cbv
    refine CallTo.w hP hE k6 ⟨rfl,trivial⟩ ?_
    cbv
    refine CallTo.w hP hE ka ⟨(by subst hE; exact Sm.of (c:=cP) tk9),trivial⟩ ?_
    cbv
    refine CallTo.w hP hE km ⟨rfl,rfl,trivial⟩ ?_
    cbv
    refine CallTo.w hP hE kq ⟨rfl,rfl,trivial⟩ ?_
    cbv
    refine CallTo.w hP hE ks ⟨rfl,rfl,trivial⟩ ?_
    cbv
    exact w9 ⟨rfl,w2⟩
/-- The first point that is to be removed. -/
def needI (l:List Pq):Option Nat:=(List.range l.length).find? (remAt l)
def simpF:Nat->List Pq->List Pq
 | 0,l=>l
 | n+1,l=>if l.length < 3 then l else match needI l with
  | none=>l
  | some i=>simpF n (l.eraseIdx i)
def simpQ (l:List Pq):List Pq:=simpF l.length l
theorem simpQ_stop {l:List Pq} (h:l.length < 3):simpQ l=l:=by
 unfold simpQ
 cases e:l.length with
 | zero=>rfl
 | succ n=>rw [simpF,if_pos h]
theorem need_at {l:List Pq} {i:Nat} (hi:i < l.length) (h:∀ k,k < i->remAt l k=false) (hf:remAt l i=true):needI l=some i:=by
 unfold needI
 rw [List.find?_range_eq_some]
 exact ⟨hf,by simpa using hi,fun j hj=>by simp [h j hj]⟩
theorem need_no {l:List Pq} (h:∀ k,k < l.length->remAt l k=false):needI l=none:=by
 unfold needI
 rw [List.find?_eq_none]
 intro x hx
 rw [h x (by simpa using hx)]; decide
theorem need_lt {l:List Pq} {i:Nat} (h:needI l=some i):i < l.length:=by
 unfold needI at h
 simpa using List.mem_of_find?_eq_some h
theorem simpQ_none {l:List Pq} (h:needI l=none):simpQ l=l:=by
 unfold simpQ
 cases e:l.length with
 | zero=>rfl
 | succ n=>
  rw [simpF]
  split
  ·rfl
  ·rw [h]
theorem simpQ_some {l:List Pq} {i:Nat} (h3:3<=l.length) (h:needI l=some i):simpQ (l.eraseIdx i)=simpQ l:=by
 have hi:=need_lt h
 obtain ⟨n,hn⟩:∃ n,l.length=n+1:=⟨l.length - 1,by omega⟩
 have he:(l.eraseIdx i).length=n:=by rw [List.length_eraseIdx,if_pos hi]; omega
 unfold simpQ
 rw [he,hn,simpF,if_neg (by omega),h]
/-- What Canonical answers. -/
def canE (c:Bool) (l:List Pq):Int:=
 if 64 < l.length then 4 else if c=false then 1 else if (simpQ l).length < 3 then 12 else if crossB (simpQ l)=true then 13 else 0
def turnQ (l:List Pq):List Pq:=if cmpQ (areaQ l) 0 < 0 then l.reverse else l
def rotQ (l:List Pq):List Pq:=l.drop (firstI l)++l.take (firstI l)
def canQ (l:List Pq):List Pq:=rotQ (turnQ (simpQ l))
theorem simpF_sub:∀ (n:Nat) (l:List Pq) (p:Pq),p ∈ simpF n l->p ∈ l
 | 0,l,p,h=>h
 | n+1,l,p,h=>by
  rw [simpF] at h
  split at h
  ·exact h
  ·split at h
   ·exact h
   ·exact List.mem_of_mem_eraseIdx (simpF_sub n _ p h)
theorem simpQ_sub {l:List Pq} {p:Pq} (h:p ∈ simpQ l):p ∈ l:=simpF_sub _ _ _ h
theorem simpF_len:∀ (n:Nat) (l:List Pq),(simpF n l).length<=l.length
 | 0,l=>Nat.le_refl _
 | n+1,l=>by
  rw [simpF]
  split
  ·exact Nat.le_refl _
  ·split
   ·exact Nat.le_refl _
   ·exact Nat.le_trans (simpF_len n _) (List.length_eraseIdx_le _ _)
theorem simpQ_len (l:List Pq):(simpQ l).length<=l.length:=simpF_len _ _
theorem firstI_lt {l:List Pq} (h:1<=l.length):firstI l < l.length:=by
 have key:∀ n,1<=n->(List.range n).foldl (fun k i=>if cmpP (at' l i) (at' l k) < 0 then i else k) 0 < n:=by
  intro n
  induction n with
  | zero=>intro h; omega
  | succ n ih=>
   intro _
   rw [List.range_succ,List.foldl_append]
   show (if _ then n else _) < n+1
   split
   ·omega
   ·by_cases c:n=0
    ·subst c; exact Nat.zero_lt_one
    ·have:=ih (by omega); omega
 exact key _ h
theorem turnQ_len (l:List Pq):(turnQ l).length=l.length:=by
 unfold turnQ; split
 ·exact List.length_reverse
 ·rfl
/-- The row and the list that a round of simplify holds: the first L of the row are the list. -/
structure SimI (l0:List Pq) (N:Nat) (L:Int) (zs:List Pt) (l:List Pq):Prop where
 len:L=l.length
 zl:zs.length=N
 le:l.length<=N
 eq:zs.take l.length=l.map crP
 si:simpQ l=simpQ l0
 sub:∀ p ∈ l,p ∈ l0
theorem SimI.get {l0:List Pq} {N:Nat} {L:Int} {zs:List Pt} {l:List Pq} (h:SimI l0 N L zs l) {i:Nat} (hi:i < l.length):zs.getD i zQ=crP (at' l i):=by
 have h1:(zs.take l.length)[i]?=zs[i]?:=by rw [List.getElem?_take,if_pos hi]
 rw [h.eq,List.getElem?_map,List.getElem?_eq_getElem hi] at h1
 rw [List.getD_eq_getElem?_getD,<-h1]
 unfold at'
 rw [List.getD_eq_getElem?_getD,List.getElem?_eq_getElem hi]; rfl
/-- Within a round: nothing so far. -/
structure SimL (l:List Pq) (L i:Int):Prop where
 h0:0<=i
 h1:i<=L
 no:∀ k,k < i.toNat->remAt l k=false
/-- What slices.Delete of one point asks for and yields. -/
structure DelF (zs:List Pt) (L i L1:Int) (R:List Pt):Prop where
 n1:std.rng i (std.ib .add .i64 i 1) L/\std.rng 0 L L
 f1:std.ic .eql i (std.ib .add .i64 i 1)=false
 n2:std.rng 0 i L
 n3:std.rng (std.ib .add .i64 i 1) L L
 n4:std.rng 0 (std.ad i (std.sb L (std.ib .add .i64 i 1))) (std.len Pt zs)
 n5:std.rng (std.ad i (std.sb L (std.ib .add .i64 i 1))) L (std.len Pt (std.app Pt (std.tk Pt zs i) (std.app Pt (std.wnd Pt zs (std.ib .add .i64 i 1) (std.sb L (std.ib .add .i64 i 1))) (std.wnd Pt zs (std.ad i (std.sb L (std.ib .add .i64 i 1))) (std.sb (std.len Pt zs) (std.ad i (std.sb L (std.ib .add .i64 i 1))))))))
 n6:std.rng 0 (std.ad (std.ad i (std.sb L (std.ib .add .i64 i 1))) (std.sb L (std.ad i (std.sb L (std.ib .add .i64 i 1))))) (std.len Pt (std.app Pt (std.tk Pt zs i) (std.app Pt (std.wnd Pt zs (std.ib .add .i64 i 1) (std.sb L (std.ib .add .i64 i 1))) (std.wnd Pt zs (std.ad i (std.sb L (std.ib .add .i64 i 1))) (std.sb (std.len Pt zs) (std.ad i (std.sb L (std.ib .add .i64 i 1))))))))
 ln:(std.ad i (std.sb L (std.ib .add .i64 i 1)))=L1
 row:std.app Pt (std.tk Pt (std.app Pt (std.tk Pt zs i) (std.app Pt (std.wnd Pt zs (std.ib .add .i64 i 1) (std.sb L (std.ib .add .i64 i 1))) (std.wnd Pt zs (std.ad i (std.sb L (std.ib .add .i64 i 1))) (std.sb (std.len Pt zs) (std.ad i (std.sb L (std.ib .add .i64 i 1))))))) (std.ad i (std.sb L (std.ib .add .i64 i 1)))) (std.app Pt (std.rep Pt (std.sb L (std.ad i (std.sb L (std.ib .add .i64 i 1)))) zQ) (std.wnd Pt (std.app Pt (std.tk Pt zs i) (std.app Pt (std.wnd Pt zs (std.ib .add .i64 i 1) (std.sb L (std.ib .add .i64 i 1))) (std.wnd Pt zs (std.ad i (std.sb L (std.ib .add .i64 i 1))) (std.sb (std.len Pt zs) (std.ad i (std.sb L (std.ib .add .i64 i 1))))))) (std.ad (std.ad i (std.sb L (std.ib .add .i64 i 1))) (std.sb L (std.ad i (std.sb L (std.ib .add .i64 i 1))))) (std.sb (std.len Pt (std.app Pt (std.tk Pt zs i) (std.app Pt (std.wnd Pt zs (std.ib .add .i64 i 1) (std.sb L (std.ib .add .i64 i 1))) (std.wnd Pt zs (std.ad i (std.sb L (std.ib .add .i64 i 1))) (std.sb (std.len Pt zs) (std.ad i (std.sb L (std.ib .add .i64 i 1)))))))) (std.ad (std.ad i (std.sb L (std.ib .add .i64 i 1))) (std.sb L (std.ad i (std.sb L (std.ib .add .i64 i 1))))))))=R
theorem DelF.of {zs:List Pt} {L i j:Int} (h0:0<=i) (h1:i < L) (h2:L<=zs.length) (h3:zs.length<=4096) (hj:j=i+1):DelF zs L i (L - 1) ((zs.take i.toNat++((zs.drop j.toNat).take (L - j).toNat++zs.drop (L - 1).toNat)).take (L - 1).toNat++(zQ::(zs.take i.toNat++((zs.drop j.toNat).take (L - j).toNat++zs.drop (L - 1).toNat)).drop L.toNat)):=by
 have eJ:(std.ib .add .i64 i 1)=j:=by rw [s_add,w64 (by omega) (by omega),hj]
 have eL:std.ad i (std.sb L j)=L - 1:=by show i+(L - j)=L - 1; omega
 have e1:std.sb L (L - 1)=1:=by show L - (L - 1)=1; omega
 have e2:std.ad (L - 1) 1=L:=by show L - 1+1=L; omega
 have eR:std.app Pt (std.tk Pt zs i) (std.app Pt (std.wnd Pt zs j (std.sb L j)) (std.wnd Pt zs (L - 1) (std.sb (std.len Pt zs) (L - 1))))=(zs.take i.toNat++((zs.drop j.toNat).take (L - j).toNat++zs.drop (L - 1).toNat)):=by
  show zs.take i.toNat++((zs.drop j.toNat).take (L - j).toNat++(zs.drop (L - 1).toNat).take ((zs.length:Int) - (L - 1)).toNat)=_
  rw [List.take_of_length_le (l:=zs.drop (L - 1).toNat) (by rw [List.length_drop]; omega)]
 have hRl:((zs.take i.toNat++((zs.drop j.toNat).take (L - j).toNat++zs.drop (L - 1).toNat))).length=zs.length:=by
  simp only [List.length_append,List.length_take,List.length_drop]; omega
 constructor
 ·rw [eJ]; exact ⟨⟨by omega,by omega,by omega⟩,⟨by omega,by omega,by omega⟩⟩
 ·rw [eJ]; exact decide_eq_false (by omega)
 ·exact ⟨by omega,by omega,by omega⟩
 ·rw [eJ]; exact ⟨by omega,by omega,by omega⟩
 ·rw [eJ,eL,s_len]; exact ⟨by omega,by omega,by omega⟩
 ·rw [eJ,eL,eR,s_len,hRl]; exact ⟨by omega,by omega,by omega⟩
 ·rw [eJ,eL,eR,e1,e2,s_len,hRl]; exact ⟨by omega,by omega,by omega⟩
 ·rw [eJ,eL]
 ·rw [eJ,eL,eR,e1,e2]
  show ((zs.take i.toNat++((zs.drop j.toNat).take (L - j).toNat++zs.drop (L - 1).toNat))).take (L - 1).toNat++(List.replicate (1:Int).toNat zQ++(((zs.take i.toNat++((zs.drop j.toNat).take (L - j).toNat++zs.drop (L - 1).toNat))).drop L.toNat).take ((((zs.take i.toNat++((zs.drop j.toNat).take (L - j).toNat++zs.drop (L - 1).toNat))).length:Int) - L).toNat)=_
  rw [List.take_of_length_le (l:=((zs.take i.toNat++((zs.drop j.toNat).take (L - j).toNat++zs.drop (L - 1).toNat))).drop L.toNat) (by rw [List.length_drop]; omega)]
  rfl
structure SimF (l0:List Pq) (N:Nat) (L:Int) (zs:List Pt) (l:List Pq) (i a b c j:Int) (p q r:Pt) (m:Int):Prop where
 in0:0<=a/\a < L
 in1:0<=i/\i < L
 in2:0<=c/\c < L
 nz:L ≠ 0
 e1:std.ib .add .i64 i L=b
 e2:std.ib .rem .i64 (std.ib .sub .i64 b 1) L=a
 e3:std.ib .add .i64 i 1=j
 e4:std.ib .rem .i64 j L=c
 g0:std.get Pt zs a zQ=p
 g1:std.get Pt zs i zQ=q
 g2:std.get Pt zs c zQ=r
 co:Con Tryz.prog 28 [.v p.v,.v q.v,.v r.v] (.v (.int .i64 m))
 rem:q=r\/m=0->3<=L->∃ L1 R l1,DelF zs L i L1 R/\SimI l0 N L1 R l1/\l1.length < l.length
 no:¬ q=r->¬ m=0->SimL l L j
 mu:(L - j).toNat < (L - i).toNat
theorem simF_ex {k0:Nat} {l0:List Pq} {N:Nat} {L:Int} {zs:List Pt} {l:List Pq} (hp:∀ p ∈ l0,IsP k0 (crP p) p) (hN:N<=4096) (hk:16*k0+16<=134217728) {i:Int} (h:SimI l0 N L zs l) (hL:SimL l L i) (hi:i < L):∃ a b c j p q r m,SimF l0 N L zs l i a b c j p q r m:=by
 have h0:=hL.h0
 have hle:=h.le
 have hlen:=h.len
 obtain ⟨n,hn⟩:∃ n:Nat,n=l.length:=⟨_,rfl⟩
 obtain ⟨u,hu⟩:∃ u:Nat,(u:Int)=i:=⟨i.toNat,by omega⟩
 have hLn:L=(n:Int):=by omega
 have l0':(u+n - 1) % n < n:=Nat.mod_lt _ (by omega)
 have l2:(u+1) % n < n:=Nat.mod_lt _ (by omega)
 have hm:∀ k,k < n->IsP k0 (crP (at' l k)) (at' l k):=fun k hk=>hp _ (h.sub _ (at_mem (by omega)))
 obtain ⟨m,em,km⟩:=orient_p (hm _ l0') (hm u (by omega)) (hm _ l2) (by omega)
 have hrm:remAt l u=(decide (cmpP (at' l u) (at' l ((u+1) % n))=0) || decide (m=0)):=by
  unfold remAt flatAt
  rw [<-hn,em]
 refine ⟨(((u+n - 1) % n:Nat):Int),i+L,(((u+1) % n:Nat):Int),i+1,crP (at' l ((u+n - 1) % n)),crP (at' l u),crP (at' l ((u+1) % n)),m,⟨by omega,by omega,by omega,by omega,?_,?_,?_,?_,?_,?_,?_,km,?_,?_,by omega⟩⟩
 ·rw [s_add,w64 (by omega) (by omega)]
 ·rw [s_sub,w64 (by omega) (by omega),s_rem]
  have e:(i+L - 1:Int)=((u+n - 1:Nat):Int):=by omega
  rw [e,hLn]
  have:Int.tmod ((u+n - 1:Nat):Int) (n:Int)=(((u+n - 1) % n:Nat):Int):=rfl
  rw [this]
 ·rw [s_add,w64 (by omega) (by omega)]
 ·rw [s_rem]
  have e:(i+1:Int)=((u+1:Nat):Int):=by omega
  rw [e,hLn]
  have:Int.tmod ((u+1:Nat):Int) (n:Int)=(((u+1) % n:Nat):Int):=rfl
  rw [this]
 ·show zs.getD ((((u+n - 1) % n:Nat):Int)).toNat zQ=_
  rw [Int.toNat_natCast]; exact h.get (by omega)
 ·show zs.getD i.toNat zQ=_
  rw [<-hu,Int.toNat_natCast]; exact h.get (by omega)
 ·show zs.getD ((((u+1) % n:Nat):Int)).toNat zQ=_
  rw [Int.toNat_natCast]; exact h.get (by omega)
 ·intro c h3
  have hf:remAt l u=true:=by
   rw [hrm,Bool.or_eq_true,decide_eq_true_iff,decide_eq_true_iff]
   rcases c with c | c
   ·exact .inl (cmpP_eq.2 (crP_iff.1 c))
   ·exact .inr c
  have hne:=need_at (by omega) (fun k hk=>hL.no k (by omega)) hf
  have hs:=simpQ_some (by omega) hne
  have eu:i.toNat=u:=by omega
  have hel:(l.eraseIdx u).length=n - 1:=by rw [List.length_eraseIdx,if_pos (by omega)]; omega
  refine ⟨L - 1,_,l.eraseIdx u,DelF.of (j:=i+1) h0 hi (by have:=h.zl; omega) (by have:=h.zl; omega) rfl,?_,by omega⟩
  rw [eu]
  refine ⟨by omega,?_,by omega,?_,hs.trans h.si,fun p hp=>h.sub p (List.mem_of_mem_eraseIdx hp)⟩
  ·have:=h.zl
   simp only [List.length_append,List.length_take,List.length_drop,List.length_cons]; omega
  ·have hz:=h.zl
   have e1:(L - 1).toNat=n - 1:=by omega
   have e2:(i+1).toNat=u+1:=by omega
   have e3:(L - (i+1)).toNat=n - (u+1):=by omega
   rw [hel,e1,e2,e3,List.take_append_of_le_length (by simp only [List.length_take,List.length_append,List.length_drop]; omega),List.take_take,Nat.min_self]
   rw [<-List.append_assoc,List.take_append_of_le_length (by simp only [List.length_take,List.length_append,List.length_drop]; omega),List.take_of_length_le (by simp only [List.length_take,List.length_append,List.length_drop]; omega)]
   rw [List.eraseIdx_eq_take_drop_succ,List.map_append,List.map_take,List.map_drop,<-h.eq,<-hn,List.take_take,List.drop_take,Nat.min_eq_left (by omega)]
 ·intro c1 c2
  refine ⟨by omega,by omega,fun k hk=>?_⟩
  by_cases e:k=u
  ·rw [e,hrm,decide_eq_false (fun c=>c1 (by rw [cmpP_eq.1 c])),decide_eq_false c2]; rfl
  ·exact hL.no k (by omega)
theorem take_get {zs:List Pt} {l:List Pq} (h:zs.take l.length=l.map crP) {i:Nat} (hi:i < l.length):zs.getD i zQ=crP (at' l i):=by
 have h1:(zs.take l.length)[i]?=zs[i]?:=by rw [List.getElem?_take,if_pos hi]
 rw [h,List.getElem?_map,List.getElem?_eq_getElem hi] at h1
 rw [List.getD_eq_getElem?_getD,<-h1]
 unfold at'
 rw [List.getD_eq_getElem?_getD,List.getElem?_eq_getElem hi]; rfl
/-- Reverse, on the first points of a row. -/
structure RvI (l0:List Pq) (N:Nat) (i j:Int) (zs:List Pt) (l:List Pq):Prop where
 h0:0<=i
 zl:zs.length=N
 eq:zs.take l.length=l.map crP
 rv:RevI l0 l i.toNat j
structure RvF (l0:List Pq) (N:Nat) (L i j:Int) (zs:List Pt) (w1 w2:Pt) (i' j':Int) (zs':List Pt) (l':List Pq):Prop where
 in1:0<=i/\i < L
 in2:0<=j/\j < L
 row:std.set Pt (std.set Pt zs i (std.get Pt zs j zQ)) j (std.get Pt zs i zQ)=zs'
 add:std.ib .add .i64 i 1=i'
 sub:std.ib .sub .i64 j 1=j'
 inv:RvI l0 N i' j' zs' l'
 mu:(j' - i').toNat < (j - i).toNat
theorem rvF_ex {l0:List Pq} {N:Nat} {L:Int} (hL:L=l0.length) (hl:l0.length<=4096) {i j:Int} {zs:List Pt} {l:List Pq} (h:RvI l0 N i j zs l) (hij:i < j):∃ w1 w2 i' j' zs' l',RvF l0 N L i j zs w1 w2 i' j' zs' l':=by
 have h0:=h.h0
 have h1:=h.rv.sum
 have h2:=h.rv.len
 have e:(i+1).toNat=i.toNat+1:=by omega
 have b1:i.toNat < l.length:=by omega
 have b2:j.toNat < l.length:=by omega
 refine ⟨zQ,zQ,i+1,j - 1,(zs.set i.toNat (crP (at' l j.toNat))).set j.toNat (crP (at' l i.toNat)),swp l i.toNat j.toNat,⟨⟨h0,by omega⟩,⟨by omega,by omega⟩,?_,by rw [s_add,w64 (by omega) (by omega)],by rw [s_sub,w64 (by omega) (by omega)],⟨by omega,?_,?_,?_⟩,by omega⟩⟩
 ·show (zs.set i.toNat (zs.getD j.toNat zQ)).set j.toNat (zs.getD i.toNat zQ)=_
  rw [take_get h.eq b1,take_get h.eq b2]
 ·rw [List.length_set,List.length_set]; exact h.zl
 ·rw [swp_len]
  unfold swp
  rw [List.take_set,List.take_set,h.eq,List.map_set,List.map_set]
 ·rw [e]
  exact h.rv.step (by omega)
end Go.Proofs.YtkipmmiiackdaaaGreat.Sx
