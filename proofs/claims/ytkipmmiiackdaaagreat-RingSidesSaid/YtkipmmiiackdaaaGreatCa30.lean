/- Part 30 of what the statement needs: an executor of Go texts, arithmetic, and contracts of the functions that are called. -/
import Derived.Test.YtkipmmiiackdaaaGreatCa23
import Derived.Test.YtkipmmiiackdaaaGreatCa29
set_option linter.unusedSimpArgs false
set_option linter.unusedVariables false
set_option maxHeartbeats 8000000
set_option maxRecDepth 100000
namespace Go.Proofs.YtkipmmiiackdaaaGreat.Sx
open Env (std)
abbrev zG:Sg:=⟨⟨⟨false,⟨#[]⟩,⟨#[]⟩⟩,⟨false,⟨#[]⟩,⟨#[]⟩⟩⟩,⟨⟨false,⟨#[]⟩,⟨#[]⟩⟩,⟨false,⟨#[]⟩,⟨#[]⟩⟩⟩⟩
structure CrsO (ps:List Pt) (n i:Int):Prop where
 h0:0<=i
 h1:i<=n
 no:∀ a,a < i.toNat->∀ b,a+2<=b->b < ps.length->crossAt (ps.map Pt.q) a b=false
structure CrsJ (ps:List Pt) (n i k:Int):Prop where
 h0:i+2<=k
 no:∀ b,i.toNat+2<=b->b < k.toNat->b < ps.length->crossAt (ps.map Pt.q) i.toNat b=false
structure CrsF (ps:List Pt) (n i k:Int) (x y m:Sg) (b:Bool) (e k':Int):Prop where
 in2:0<=k/\k < n
 g1:std.get Sg (edgesP ps) i zG=x
 g2:std.get Sg (edgesP ps) k zG=y
 c:Con Tryz.prog 196 [.v x.v,.v y.v] (.v (.tuple #[m.v,.bool b,.int .i64 e]))
 add:std.ib .add .i64 k 1=k'
 hit:b=true->¬ (i=0/\k=n - 1)->crossB (ps.map Pt.q)=true
 no:b=false->CrsJ ps n i k'
 skip:i=0/\k=n - 1->CrsJ ps n i k'
 mu:(n - k').toNat < (n - k).toNat
theorem edgeP_is {k0:Nat} {ps:List Pt} (hp:∀ p ∈ ps,IsP k0 p p.q) {i:Nat} (hi:i < ps.length):IsS k0 (edgeP ps i) (edgeQ (ps.map Pt.q) i):=by
 have hr:(i+1) % ps.length < ps.length:=Nat.mod_lt _ (by omega)
 unfold edgeP edgeQ
 rw [List.length_map]
 refine ⟨?_,?_⟩
 ·show IsP k0 _ (at' (ps.map Pt.q) i)
  rw [map_at hi]; exact hp _ (getD_mem hi)
 ·show IsP k0 _ (at' (ps.map Pt.q) ((i+1) % ps.length))
  rw [map_at hr]; exact hp _ (getD_mem hr)
theorem edgesP_get {ps:List Pt} {i:Nat} (hi:i < ps.length):(edgesP ps).getD i zG=edgeP ps i:=by
 unfold edgesP
 rw [List.getD_eq_getElem?_getD,List.getElem?_map,List.getElem?_eq_getElem (by simpa using hi)]
 simp
theorem crsF_ex {k0:Nat} {ps:List Pt} (hp:∀ p ∈ ps,IsP k0 p p.q) (hl:ps.length<=4096) (hk:40*k0+40<=134217728) {n i k:Int} (hn:n=(ps.length:Int)) (h0:0<=i) (h:CrsJ ps n i k) (hi:i < n) (hkn:k < n):∃ x y m b e k',CrsF ps n i k x y m b e k':=by
 have hk0:=h.h0
 have b1:i.toNat < ps.length:=by omega
 have b2:k.toNat < ps.length:=by omega
 obtain ⟨m,b,e,_,_,eb,_,km⟩:=smeet_p (edgeP_is hp b1) (edgeP_is hp b2) (by omega)
 have hca:crossAt (ps.map Pt.q) i.toNat k.toNat=(!(decide (i.toNat=0) && decide (k.toNat=ps.length - 1)) && b):=by
  unfold crossAt; rw [eb,List.length_map]
 have hup:crossAt (ps.map Pt.q) i.toNat k.toNat=false->CrsJ ps n i (k+1):=fun hc=>⟨by omega,fun c h1 h2 h3=>by
  by_cases e:c=k.toNat
  ·rw [e]; exact hc
  ·exact h.no c h1 (by omega) h3⟩
 refine ⟨edgeP ps i.toNat,edgeP ps k.toNat,m,b,e,k+1,⟨⟨by omega,hkn⟩,edgesP_get b1,edgesP_get b2,km,by rw [s_add,w64 (by omega) (by omega)],fun hb hne=>?_,fun hb=>hup (by rw [hca,hb]; simp),fun hs=>hup (by rw [hca,decide_eq_true (show i.toNat=0 by omega),decide_eq_true (show k.toNat=ps.length - 1 by omega)]; rfl),by omega⟩⟩
 unfold crossB
 rw [List.any_eq_true]
 refine ⟨i.toNat,by simp; omega,?_⟩
 rw [List.any_eq_true]
 refine ⟨k.toNat,by simp; omega,?_⟩
 rw [hca,hb,Bool.and_true,Bool.and_eq_true]
 refine ⟨decide_eq_true (by omega),?_⟩
 by_cases c:i.toNat=0
 ·rw [decide_eq_false (show ¬ k.toNat=ps.length - 1 by omega)]; simp
 ·rw [decide_eq_false c]; rfl
theorem cross_no {ps:List Pt} {n i:Int} (hn:n=(ps.length:Int)) (h:CrsO ps n i) (hi:¬ i < n):crossB (ps.map Pt.q)=false:=by
 rw [<-Bool.not_eq_true]
 intro hc
 unfold crossB at hc
 rw [List.any_eq_true] at hc
 obtain ⟨a,ha,hc⟩:=hc
 rw [List.any_eq_true] at hc
 obtain ⟨b,hb,hc⟩:=hc
 rw [Bool.and_eq_true,decide_eq_true_iff] at hc
 rw [List.mem_range,List.length_map] at ha hb
 rw [h.no a (by omega) b hc.1 hb] at hc
 cases hc.2
theorem crossing_q {k0:Nat} {ps:List Pt} (hp:∀ p ∈ ps,IsP k0 p p.q) (hl:ps.length<=4096) (hk:40*k0+40<=134217728):Con Tryz.prog 96 [.ro cP ps] (.v (.bool (crossB (ps.map Pt.q)))):=by
 obtain ⟨r0,e0⟩:∃ r,r=crossB (ps.map Pt.q):=⟨_,rfl⟩
 rw [<-e0]
 obtain ⟨n,hn⟩:∃ n:Int,n=ps.length:=⟨_,rfl⟩
 obtain ⟨i0,hi0⟩:∃ i:Int,i=0:=⟨_,rfl⟩
 have hp0:CrsO ps n i0:=⟨by omega,by omega,fun a ha=>by rw [hi0] at ha; exact absurd ha (Nat.not_lt_zero _)⟩
 have ke:=edges_q hl
 obtain ⟨rs,hrs⟩:∃ r,r=edgesP ps:=⟨_,rfl⟩
 have hrl:n=(rs.length:Int):=by rw [hn,hrs,edgesP_len]
 have hrnd:∀ i k,0<=i->i < n->CrsJ ps n i k->k < n->∃ x y m b e k',CrsF ps n i k x y m b e k':=fun i k h0 h1 h2 h3=>crsF_ex hp hl hk hn h0 h2 h1 h3
 have hstart:∀ i k,CrsO ps n i->i < n->k=i+2->CrsJ ps n i k:=fun i k h h1 h2=>⟨by omega,fun b h3 h4=>by have:=h.h0; omega⟩
 have hnext:∀ i k j,CrsO ps n i->i < n->CrsJ ps n i k->¬ k < n->j=i+1->CrsO ps n j:=fun i k j h h1 h2 h3 h4=>by
  have h5:=h.h0
  have h6:=h2.h0
  refine ⟨by omega,by omega,fun a ha b hb1 hb2=>?_⟩
  by_cases e:a=i.toNat
  ·rw [e]; exact h2.no b (by omega) (by omega) hb2
  ·exact h.no a (by omega) b hb1 hb2
 have hfin:∀ i,CrsO ps n i->¬ i < n->r0=false:=fun i h h'=>by rw [e0]; exact cross_no hn h h'
 have hln:std.len Sg rs=n:=hrl.symm
 have hsub:std.ib .sub .i64 n 1=n - 1:=by rw [s_sub,w64 (by omega) (by omega)]
 have tk9:std.tk Pt ps (std.len Pt ps)=ps:=by rw [s_tk,s_len]; exact List.take_of_length_le (by omega)
 rw [<-hrs] at ke
 refine Con.of ttOk mixed Tryz.func96 { ord:=[(10,(.op 0 (.op 1 (.op 2 (.op 3 (.op 4 (.op 5 (.op 6 (.op 7 (.br 8 (.op 9 (.op 10 (.op 11 (.op 12 (.op 13 (.op 14 (.op 15 (.op 16 .nil)))))))) (.br 13 (.op 8 (.op 9 (.op 10 (.op 11 (.op 12 (.op 14 (.op 15 (.op 16 .nil)))))))) .stop)))))))))))] } .nil 0 (by kernel_rfl) (fun P' E hP hE=>?_)
 cbv
 refine CallTo.con hP hE ke ⟨(by subst hE; exact Sm.of (c:=cP) tk9),trivial⟩ ?_
 cbv
 refine LoopTo.by (ι:=Int) (fun x=>[(4,.v (.int .i64 n)),(15,.v (.int .i64 n)),(16,.v (.int .i64 x))]) (fun x=>[]) (fun x=>CrsO ps n x) (fun x=>(n - x).toNat) i0 [] hp0 ?_ ?_
 ·cbv
  subst hE
  and_intros
  all_goals first
   | exact True.intro
   | rfl
   | exact vi hln
   | exact vj hln
   | exact vi hi0.symm
   | exact vj hi0.symm
   | (simp; done)
 ·intro i hi
  have hi:CrsO ps n i:=hi
  clear hp0
  cbv
  refine fork.mk ?_ ?_
  ·intro g
   have hrl:n=(rs.length:Int):=hrl
   have hn:n=(ps.length:Int):=hn
   have hlt:i < n:=by subst hE; simpa [std] using g
   have h0:=hi.h0
   have in1:0<=i/\i < (rs.length:Int):=⟨h0,by omega⟩
   obtain ⟨k0,hk0⟩:∃ k,k=i+2:=⟨_,rfl⟩
   have hk0E:std.ib .add .i64 i 2=k0:=by rw [s_add,w64 (by omega) (by omega),hk0]
   have hJ0:=hstart i k0 hi hlt hk0
   obtain ⟨i2,hi2⟩:∃ j,j=i+1:=⟨_,rfl⟩
   have hi2E:std.ib .add .i64 i 1=i2:=by rw [s_add,w64 (by omega) (by omega),hi2]
   have hmu2:(n - i2).toNat < (n - i).toNat:=by omega
   have hnext2:∀ k,CrsJ ps n i k->¬ k < n->CrsO ps n i2:=fun k h1 h2=>hnext i k i2 hi hlt h1 h2 hi2
   clear hk0 hi2 hstart g
   cbv
   refine LoopTo.by (ι:=Int) (fun x=>[(6,.v (.int .i64 x))]) (fun x=>[]) (fun x=>CrsJ ps n i x) (fun x=>(n - x).toNat) k0 [] hJ0 ?_ ?_
   ·cbv
    subst hE
    and_intros
    all_goals first
     | exact True.intro
     | rfl
     | exact vi hk0E
     | exact vj hk0E
     | (simp; done)
   ·intro k hk
    have hk:CrsJ ps n i k:=hk
    clear hJ0
    cbv
    refine fork.mk ?_ ?_
    ·intro g2
     have hkn:k < n:=by subst hE; simpa [std] using g2
     have hf0:=hrnd i k h0 hlt hk hkn
     clear hk g2
     cbv
     refine Exists.elim hf0 ?_
     intro x h
     refine Exists.elim h ?_
     intro y h
     refine Exists.elim h ?_
     intro m h
     refine Exists.elim h ?_
     intro b h
     refine Exists.elim h ?_
     intro e h
     refine Exists.elim h ?_
     intro k' hf
     have hrl:n=(rs.length:Int):=hrl
     have in2:0<=k/\k < (rs.length:Int):=by rw [<-hrl]; exact hf.in2
     have hrs:rs=edgesP ps:=hrs
     have hg1:=hf.g1
     have hg2:=hf.g2
     rw [<-hrs] at hg1 hg2
     have km:=hf.c
     have hadd:=hf.add
     have hhit:=hf.hit
     have hno:=hf.no
     have hskip:=hf.skip
     have hmu:=hf.mu
     clear hf h hf0 hkn
     refine fork.mk ?_ ?_
     ·intro g3
      have hz:i=0:=by subst hE; simpa [std] using g3
      cbv
      refine fork.mk ?_ ?_
      ·intro g4
       have he:k=n - 1:=by
        subst hE
        have g4:std.ic .eql k (std.ib .sub .i64 n 1)=true:=g4
        rw [hsub] at g4; simpa using g4
       have hst:=hskip ⟨hz,he⟩
       clear hno hskip hnext hfin hrnd hhit
       cbv
       refine ⟨k',[],hst,hmu,?_⟩
       cbv
       subst hE
       and_intros
       all_goals first
        | exact True.intro
        | rfl
        | exact vi hadd
        | exact vj hadd
        | (simp; done)
      ·intro g4
       have he:¬ k=n - 1:=by
        subst hE
        have g4:std.ic .eql k (std.ib .sub .i64 n 1)=false:=g4
        rw [hsub] at g4; simpa using g4
       cbv
       refine DrawTo.byU [(7,.p 2 0),(8,.v (.bool b)),(9,.v (.int .i64 e))] [.cells m.av 52] ?_ ?_
       ·cbv
        repeat' first
         | exact True.intro
         | (refine Need.mk (by subst hE; exact in1) ?_; cbv)
         | (refine Need.mk (by subst hE; exact in2) ?_; cbv)
         | (refine Both.mk ?_ ?_<;>cbv)
         | (refine CallTo.w hP hE km ⟨(by subst hE; exact congrArg (fun p:Sg=>p.v) hg1),(by subst hE; exact congrArg (fun p:Sg=>p.v) hg2),trivial⟩ ?_; cbv)
         | (and_intros<;>first | exact True.intro | rfl | (intro h; cases h; done) | (intro h; rfl))
       ·cbv
        refine fork.mk ?_ ?_
        ·intro g9
         have hr:=hhit g9 (fun c=>he c.2)
         clear hno hskip hnext hfin hrnd hhit
         rw [<-e0] at hr
         subst hr
         cbv
        ·intro g9
         have hst:=hno g9
         cbv
         refine ⟨k',[],hst,hmu,?_⟩
         cbv
         subst hE
         and_intros
         all_goals first
          | exact True.intro
          | rfl
          | exact vi hadd
          | exact vj hadd
          | (simp; done)
     ·intro g3
      have hz:¬ i=0:=by subst hE; simpa [std] using g3
      cbv
      refine DrawTo.byU [(7,.p 2 0),(8,.v (.bool b)),(9,.v (.int .i64 e))] [.cells m.av 52] ?_ ?_
      ·cbv
       repeat' first
        | exact True.intro
        | (refine Need.mk (by subst hE; exact in1) ?_; cbv)
        | (refine Need.mk (by subst hE; exact in2) ?_; cbv)
        | (refine Both.mk ?_ ?_<;>cbv)
        | (refine CallTo.w hP hE km ⟨(by subst hE; exact congrArg (fun p:Sg=>p.v) hg1),(by subst hE; exact congrArg (fun p:Sg=>p.v) hg2),trivial⟩ ?_; cbv)
        | (and_intros<;>first | exact True.intro | rfl | (intro h; cases h; done) | (intro h; rfl))
      ·cbv
       refine fork.mk ?_ ?_
       ·intro g9
        have hr:=hhit g9 (fun c=>hz c.1)
        clear hno hskip hnext hfin hrnd hhit
        rw [<-e0] at hr
        subst hr
        cbv
       ·intro g9
        have hst:=hno g9
        cbv
        refine ⟨k',[],hst,hmu,?_⟩
        cbv
        subst hE
        and_intros
        all_goals first
         | exact True.intro
         | rfl
         | exact vi hadd
         | exact vj hadd
         | (simp; done)
    ·intro g2
     have hge:¬ k < n:=by subst hE; simpa [std] using g2
     have hst:=hnext2 k hk hge
     cbv
     refine ⟨i2,[],hst,hmu2,?_⟩
     cbv
     subst hE
     and_intros
     all_goals first
      | exact True.intro
      | rfl
      | exact vi hi2E
      | exact vj hi2E
      | (simp; done)
  ·intro g
   have hge:¬ i < n:=by subst hE; simpa [std] using g
   have hr:=hfin i hi hge
   clear hi hge hfin hrnd hnext hstart g e0
   subst hr
   cbv
theorem RelE.rev {e f:Sq} (h:RelE e f):RelE e.rev f.rev:=by
 have on_rev:∀ {s:Sq} {x:Pq},OnS s.rev x->OnS s x:=by
  rintro s x ⟨t,h0,h1,rfl⟩
  exact ⟨1 - t,by grind,by grind,Pq.ext' (by simp only [Sq.rev,Pq.at,Pq.add,Pq.scale,Pq.sub]; grind) (by simp only [Sq.rev,Pq.at,Pq.add,Pq.scale,Pq.sub]; grind)⟩
 intro x h1 h2
 rcases h x (on_rev h1) (on_rev h2) with ⟨g1,g2⟩ | ⟨g1,g2⟩
 ·right; exact ⟨g1.symm,by rw [g2,g1]; rfl⟩
 ·left; exact ⟨g1.symm,by rw [g2,g1]; rfl⟩
theorem on_rev {s:Sq} {x:Pq}:OnS s.rev x ↔ OnS s x:=by
 have key:∀ {s:Sq} {x:Pq},OnS s.rev x->OnS s x:=by
  rintro s x ⟨t,h0,h1,rfl⟩
  exact ⟨1 - t,by grind,by grind,Pq.ext' (by simp only [Sq.rev,Pq.at,Pq.add,Pq.scale,Pq.sub]; grind) (by simp only [Sq.rev,Pq.at,Pq.add,Pq.scale,Pq.sub]; grind)⟩
 exact ⟨key,fun h=>key (s:=s.rev) h⟩
/-- A vector on the positive side of the order that d and e give. -/
def Lx (d e x:Pq):Prop:=0 < d.dot x\/(d.dot x=0/\0 < e.dot x)
theorem Lx.add {d e x y:Pq} (hx:Lx d e x) (hy:Lx d e y):Lx d e (x.add y):=by
 unfold Lx at *
 have h1:d.dot (x.add y)=d.dot x+d.dot y:=by simp only [Pq.dot,Pq.add]; grind
 have h2:e.dot (x.add y)=e.dot x+e.dot y:=by simp only [Pq.dot,Pq.add]; grind
 rw [h1,h2]; grind
theorem Lx.scale {d e x:Pq} (hx:Lx d e x) {t:Rat} (ht:0 < t):Lx d e (x.scale t):=by
 unfold Lx at *
 have h1:d.dot (x.scale t)=d.dot x*t:=by simp only [Pq.dot,Pq.scale]; grind
 have h2:e.dot (x.scale t)=e.dot x*t:=by simp only [Pq.dot,Pq.scale]; grind
 rw [h1,h2]
 rcases hx with h | ⟨h,h'⟩
 ·exact .inl (Rat.mul_pos h ht)
 ·exact .inr ⟨by rw [h,Rat.zero_mul],Rat.mul_pos h' ht⟩
theorem Lx.ne {d e x:Pq} (hx:Lx d e x):x ≠ Pq.zero:=by
 intro c
 subst c
 unfold Lx at hx
 have h1:d.dot Pq.zero=0:=by simp only [Pq.dot,Pq.zero]; grind
 have h2:e.dot Pq.zero=0:=by simp only [Pq.dot,Pq.zero]; grind
 rw [h1,h2] at hx; grind
theorem Lx.tri {d e:Pq} (hc:d.cross e ≠ 0) (x:Pq):Lx d e x\/x=Pq.zero\/Lx d e (Pq.zero.sub x):=by
 unfold Lx
 have h1:d.dot (Pq.zero.sub x) = - d.dot x:=by simp only [Pq.dot,Pq.sub,Pq.zero]; grind
 have h2:e.dot (Pq.zero.sub x) = - e.dot x:=by simp only [Pq.dot,Pq.sub,Pq.zero]; grind
 rw [h1,h2]
 by_cases c1:0 < d.dot x
 ·exact .inl (.inl c1)
 ·by_cases c2:d.dot x < 0
  ·exact .inr (.inr (.inl (by grind)))
  ·have c3:d.dot x=0:=by grind
   by_cases c4:0 < e.dot x
   ·exact .inl (.inr ⟨c3,c4⟩)
   ·by_cases c5:e.dot x < 0
    ·exact .inr (.inr (.inr ⟨by grind,by grind⟩))
    ·right; left
     have c6:e.dot x=0:=by grind
     simp only [Pq.dot,Pq.cross] at c3 c6 hc
     have q1:(d.x*e.y - d.y*e.x)*x.x=0:=by grind
     have q2:(d.x*e.y - d.y*e.x)*x.y=0:=by grind
     refine Pq.ext' ?_ ?_
     ·rcases Rat.mul_eq_zero.1 q1 with h | h
      ·exact absurd h hc
      ·exact h
     ·rcases Rat.mul_eq_zero.1 q2 with h | h
      ·exact absurd h hc
      ·exact h
/-- The greatest point of a list in such an order. -/
theorem Lx.max {d e:Pq} (hc:d.cross e ≠ 0):∀ (l:List Pq),l ≠ []->∃ h ∈ l,∀ q ∈ l,q ≠ h->Lx d e (h.sub q)
 | [],h=>absurd rfl h
 | [p],_=>⟨p,by simp,fun q hq hne=>absurd (List.mem_singleton.1 hq) hne⟩
 | p::p'::l,_=>by
  obtain ⟨h,hm,hh⟩:=Lx.max hc (p'::l) (by simp)
  rcases Lx.tri hc (h.sub p) with c | c | c
  ·refine ⟨h,List.mem_cons_of_mem _ hm,fun q hq hne=>?_⟩
   rcases List.mem_cons.1 hq with rfl | hq
   ·exact c
   ·exact hh q hq hne
  ·have e:h=p:=Pq.ext' (by have:=congrArg Pq.x c; simp only [Pq.sub,Pq.zero] at this; grind) (by have:=congrArg Pq.y c; simp only [Pq.sub,Pq.zero] at this; grind)
   refine ⟨h,List.mem_cons_of_mem _ hm,fun q hq hne=>?_⟩
   rcases List.mem_cons.1 hq with rfl | hq
   ·exact absurd e.symm hne
   ·exact hh q hq hne
  ·have c:Lx d e (p.sub h):=by
    have e2:Pq.zero.sub (h.sub p)=p.sub h:=Pq.ext' (by simp only [Pq.sub,Pq.zero]; grind) (by simp only [Pq.sub,Pq.zero]; grind)
    rw [e2] at c; exact c
   refine ⟨p,by simp,fun q hq hne=>?_⟩
   rcases List.mem_cons.1 hq with rfl | hq
   ·exact absurd rfl hne
   ·by_cases e:q=h
    ·rw [e]; exact c
    ·have:=c.add (hh q hq e)
     have e2:(p.sub h).add (h.sub q)=p.sub q:=Pq.ext' (by simp only [Pq.sub,Pq.add]; grind) (by simp only [Pq.sub,Pq.add]; grind)
     rw [e2] at this; exact this
/-- A vertex that is strictly extreme among the points of a list. -/
def Xtr (v:Pq) (l:List Pq):Prop:=∃ d e:Pq,d.cross e ≠ 0/\∀ q ∈ l,q ≠ v->Lx d e (q.sub v)
theorem Xtr.sub {v:Pq} {l l':List Pq} (h:Xtr v l) (hs:∀ q ∈ l',q ∈ l):Xtr v l':=by
 obtain ⟨d,e,hc,hq⟩:=h
 exact ⟨d,e,hc,fun q h1 h2=>hq q (hs q h1) h2⟩
theorem ext_max {d e:Pq} (hc:d.cross e ≠ 0) {l:List Pq} {h:Pq} (hh:∀ q ∈ l,q ≠ h->Lx d e (h.sub q)):Xtr h l:=by
 refine ⟨Pq.zero.sub d,Pq.zero.sub e,?_,fun q h1 h2=>?_⟩
 ·intro c; apply hc; simp only [Pq.cross,Pq.sub,Pq.zero] at c ⊢; grind
 ·have:=hh q h1 h2
  unfold Lx at *
  have e1:(Pq.zero.sub d).dot (q.sub h)=d.dot (h.sub q):=by simp only [Pq.dot,Pq.sub,Pq.zero]; grind
  have e2:(Pq.zero.sub e).dot (q.sub h)=e.dot (h.sub q):=by simp only [Pq.dot,Pq.sub,Pq.zero]; grind
  rw [e1,e2]; exact this
theorem crs_anti (a b c:Pq):crs c b a = - crs a b c:=by simp only [crs,Pq.cross,Pq.sub]; grind
theorem crs_vu (u v w:Pq):crs u v w = - crs v u w:=by simp only [crs,Pq.cross,Pq.sub]; grind
theorem sub_ne {p q:Pq} (h:p ≠ q):p.sub q ≠ Pq.zero:=by
 intro c; apply h
 exact Pq.ext' (by have:=congrArg Pq.x c; simp only [Pq.sub,Pq.zero] at this; grind) (by have:=congrArg Pq.y c; simp only [Pq.sub,Pq.zero] at this; grind)
theorem sq_nn (x:Rat):0<=x*x:=by
 by_cases c:0<=x
 ·exact Rat.mul_nonneg c c
 ·have:=Rat.mul_nonneg (show 0 <= -x by grind) (show 0 <= -x by grind)
  grind
/-- At an extreme vertex a simple polygon turns. -/
theorem turn_ne {u v w:Pq} {l:List Pq} (he:Xtr v l) (hu:u ∈ l) (hw:w ∈ l) (huv:u ≠ v) (hwv:w ≠ v) (hr:RelE ⟨u,v⟩ ⟨v,w⟩):crs v u w ≠ 0:=by
 intro c0
 obtain ⟨d,e,hc,hq⟩:=he
 have lu:=hq u hu huv
 have lw:=hq w hw hwv
 have c1:(u.sub v).cross (w.sub v)=0:=c0
 obtain ⟨U,hU⟩:∃ U,U=u.sub v:=⟨_,rfl⟩
 obtain ⟨W,hW⟩:∃ W,W=w.sub v:=⟨_,rfl⟩
 rw [<-hU] at lu c1
 rw [<-hW] at lw c1
 have hW0:=lw.ne
 have n0:0 < W.dot W:=by
  simp only [Pq.dot]
  have q1:=sq_nn W.x
  have q2:=sq_nn W.y
  apply Classical.byContradiction
  intro hn
  have z1:W.x*W.x=0:=by grind
  have z2:W.y*W.y=0:=by grind
  apply hW0
  refine Pq.ext' ?_ ?_
  ·rcases Rat.mul_eq_zero.1 z1 with h | h<;>exact h
  ·rcases Rat.mul_eq_zero.1 z2 with h | h<;>exact h
 obtain ⟨t,ht⟩:∃ t,t=U.dot W / W.dot W:=⟨_,rfl⟩
 have htm:t*W.dot W=U.dot W:=by rw [ht,Rat.div_mul_cancel (by grind)]
 have ex:U.x=W.x*t:=by
  have:(U.x - W.x*t)*W.dot W=0:=by simp only [Pq.dot,Pq.cross] at *; grind
  rcases Rat.mul_eq_zero.1 this with h | h
  ·grind
  ·exact absurd h (by grind)
 have ey:U.y=W.y*t:=by
  have:(U.y - W.y*t)*W.dot W=0:=by simp only [Pq.dot,Pq.cross] at *; grind
  rcases Rat.mul_eq_zero.1 this with h | h
  ·grind
  ·exact absurd h (by grind)
 have hux:u.x=v.x+W.x*t:=by rw [<-ex,hU]; simp only [Pq.sub]; grind
 have huy:u.y=v.y+W.y*t:=by rw [<-ey,hU]; simp only [Pq.sub]; grind
 have hwx:w.x=v.x+W.x:=by rw [hW]; simp only [Pq.sub]; grind
 have hwy:w.y=v.y+W.y:=by rw [hW]; simp only [Pq.sub]; grind
 have tp:0 < t:=by
  apply Classical.byContradiction
  intro hn
  by_cases z:t=0
  ·exact lu.ne (Pq.ext' (by rw [ex,z]; show _=(0:Rat); grind) (by rw [ey,z]; show _=(0:Rat); grind))
  ·have:=lu.add (lw.scale (show 0 < -t by grind))
   exact this.ne (Pq.ext' (by simp only [Pq.add,Pq.scale,ex]; show _=(0:Rat); grind) (by simp only [Pq.add,Pq.scale,ey]; show _=(0:Rat); grind))
 have nz:¬ (W.x=0/\W.y=0):=fun h=>hW0 (Pq.ext' h.1 h.2)
 have half:((1:Int):Rat) / ((2:Int):Rat)*2=1:=by kernel_rfl
 obtain ⟨k,hk⟩:∃ k:Rat,k*2=1:=⟨_,half⟩
 by_cases cl:t<=1
 ·-- x = v + W * (t / 2)
  have s1:OnS ⟨u,v⟩ ⟨v.x+W.x*(t*k),v.y+W.y*(t*k)⟩:=
   ⟨k,by grind,by grind,Pq.ext' (by simp only [Pq.at,Pq.add,Pq.scale,Pq.sub]; rw [hux]; grind) (by simp only [Pq.at,Pq.add,Pq.scale,Pq.sub]; rw [huy]; grind)⟩
  have q1:0<=t*k:=Rat.mul_nonneg (Rat.le_of_lt tp) (by grind)
  have q2:t*k<=1:=by have:=Rat.mul_nonneg (show 0<=1 - t by grind) (show 0<=k by grind); grind
  have s2:OnS ⟨v,w⟩ ⟨v.x+W.x*(t*k),v.y+W.y*(t*k)⟩:=
   ⟨t*k,q1,q2,Pq.ext' (by simp only [Pq.at,Pq.add,Pq.scale,Pq.sub]; rw [hwx]; grind) (by simp only [Pq.at,Pq.add,Pq.scale,Pq.sub]; rw [hwy]; grind)⟩
  have tk:0 < t*k:=Rat.mul_pos tp (by grind)
  have tk1:t*k < 1:=by have:=Rat.mul_nonneg (show 0<=1 - t by grind) (show 0<=k by grind); grind
  rcases hr _ s1 s2 with ⟨_,g⟩ | ⟨_,g⟩
  ·have gx:=congrArg Pq.x g
   have gy:=congrArg Pq.y g
   simp only at gx gy
   apply nz
   constructor
   ·have:W.x*(t*k)=0:=by grind
    rcases Rat.mul_eq_zero.1 this with h | h
    ·exact h
    ·exact absurd h (by grind)
   ·have:W.y*(t*k)=0:=by grind
    rcases Rat.mul_eq_zero.1 this with h | h
    ·exact h
    ·exact absurd h (by grind)
  ·have gx:=congrArg Pq.x g
   have gy:=congrArg Pq.y g
   simp only at gx gy
   rw [hwx] at gx
   rw [hwy] at gy
   apply nz
   constructor
   ·have:W.x*(t*k - 1)=0:=by grind
    rcases Rat.mul_eq_zero.1 this with h | h
    ·exact h
    ·exact absurd h (by grind)
   ·have:W.y*(t*k - 1)=0:=by grind
    rcases Rat.mul_eq_zero.1 this with h | h
    ·exact h
    ·exact absurd h (by grind)
 ·obtain ⟨r,hrr⟩:∃ r:Rat,r*t=1:=⟨1 / t,Rat.div_mul_cancel (by grind)⟩
  have rp:0 < r:=by
   apply Classical.byContradiction
   intro hn
   have:=Rat.mul_nonneg (show 0 <= -r by grind) (Rat.le_of_lt tp)
   grind
  have r1:r<=1:=by
   apply Classical.byContradiction
   intro hn
   have:=Rat.mul_pos (show 0 < r - 1 by grind) tp
   grind
  have q1:0<=r*k:=Rat.mul_nonneg (Rat.le_of_lt rp) (by grind)
  have q2:r*k<=1:=by have:=Rat.mul_nonneg (show 0<=1 - r by grind) (show 0<=k by grind); grind
  have s1:OnS ⟨u,v⟩ ⟨v.x+W.x*k,v.y+W.y*k⟩:=
   ⟨1 - r*k,by grind,by grind,Pq.ext' (by simp only [Pq.at,Pq.add,Pq.scale,Pq.sub]; rw [hux]; grind) (by simp only [Pq.at,Pq.add,Pq.scale,Pq.sub]; rw [huy]; grind)⟩
  have s2:OnS ⟨v,w⟩ ⟨v.x+W.x*k,v.y+W.y*k⟩:=
   ⟨k,by grind,by grind,Pq.ext' (by simp only [Pq.at,Pq.add,Pq.scale,Pq.sub]; rw [hwx]; grind) (by simp only [Pq.at,Pq.add,Pq.scale,Pq.sub]; rw [hwy]; grind)⟩
  rcases hr _ s1 s2 with ⟨_,g⟩ | ⟨_,g⟩
  ·have gx:=congrArg Pq.x g
   have gy:=congrArg Pq.y g
   simp only at gx gy
   exact nz ⟨by grind,by grind⟩
  ·have gx:=congrArg Pq.x g
   have gy:=congrArg Pq.y g
   simp only at gx gy
   rw [hwx] at gx
   rw [hwy] at gy
   exact nz ⟨by grind,by grind⟩
/-- If the triangle at v is empty, the turn at its neighbour u is kept when v is taken out. -/
theorem keep_turn {v u w x:Pq} {l:List Pq} (h:crs v u w ≠ 0) (he:Xtr u l) (hx:x ∈ l) (hv:v ∈ l) (hw:w ∈ l) (xu:x ≠ u) (vu:v ≠ u) (wu:w ≠ u) (xw:x ≠ w)
  (r1:RelE ⟨x,u⟩ ⟨u,v⟩) (r2:RelE ⟨x,u⟩ ⟨v,w⟩) (hout:¬ (0<=kA v u w x/\0<=kB v u w x/\kA v u w x+kB v u w x<=1)):0 < crs x u v*crs x u w:=by
 have t1:=turn_ne he hx hv xu vu r1
 obtain ⟨D,hD⟩:∃ D,D=crs v u w:=⟨_,rfl⟩
 obtain ⟨a,ha⟩:∃ a,a=kA v u w x:=⟨_,rfl⟩
 obtain ⟨b,hb⟩:∃ b,b=kB v u w x:=⟨_,rfl⟩
 have aD:a*D=crs v x w:=by rw [ha,hD]; unfold kA; exact Rat.div_mul_cancel h
 have bD:b*D=crs v u x:=by rw [hb,hD]; unfold kB; exact Rat.div_mul_cancel h
 have e1:crs x u v = - (b*D):=by rw [bD]; exact crs_anti v u x
 have e2:crs x u w=D*(1 - a - b):=by
  have:crs x u w=crs v u w - crs v x w - crs v u x:=by simp only [crs,Pq.cross,Pq.sub]; grind
  rw [this,<-aD,<-bD,<-hD]; grind
 have e0:crs u x v=b*D:=by
  have:=crs_vu u x v
  rw [e1] at this; grind
 have b0:b ≠ 0:=fun c=>t1 (by rw [e0,c,Rat.zero_mul])
 have hDD:0 < D*D:=by
  have:=sq_nn D
  have hne:D*D ≠ 0:=fun c=>by rcases Rat.mul_eq_zero.1 c with c | c<;>exact h (hD ▸ c)
  grind
 have hk:=k_pt h x
 rw [<-ha,<-hb] at hk
 rw [<-ha,<-hb] at hout
 suffices hs:0 < (- b)*(1 - a - b) by
  have:=Rat.mul_pos hs hDD
  rw [e1,e2]; grind
 by_cases bp:0 < b
 ·have hgt:1 < a+b:=by
   apply Classical.byContradiction
   intro hn
   have an:a < 0:=by
    apply Classical.byContradiction
    intro c; exact hout ⟨by grind,by grind,by grind⟩
   have p1:0 < 1 - a:=by grind
   obtain ⟨t,ht⟩:∃ t,t=(-a) / (1 - a):=⟨_,rfl⟩
   have tm:t*(1 - a) = -a:=by rw [ht]; exact Rat.div_mul_cancel (by grind)
   have t0:0<=t:=by
    apply Classical.byContradiction
    intro c
    have:=Rat.mul_pos (show 0 < -t by grind) p1
    grind
   have t1':t<=1:=by
    apply Classical.byContradiction
    intro c
    have:=Rat.mul_pos (show 0 < t - 1 by grind) p1
    grind
   have yA:=kA_at v u w x u t
   have yB:=kB_at v u w x u t
   rw [(k_u h).1,<-ha] at yA
   rw [(k_u h).2,<-hb] at yB
   have yA0:kA v u w (x.at u t)=0:=by rw [yA]; grind
   have q1:=Rat.mul_nonneg (Rat.le_of_lt bp) (show 0<=1 - t by grind)
   have q2:=Rat.mul_nonneg (show 0<=1 - a - b by grind) (show 0<=1 - t by grind)
   have on1:OnS ⟨v,w⟩ (x.at u t):=on_vw h yA0 (by rw [yB]; grind) (by rw [yB]; grind)
   have on2:OnS ⟨x,u⟩ (x.at u t):=⟨t,t0,t1',rfl⟩
   rcases r2 _ on2 on1 with ⟨g,_⟩ | ⟨g,_⟩
   ·exact vu g.symm
   ·exact xw g.symm
  have:=Rat.mul_pos bp (show 0 < a+b - 1 by grind)
  grind
 ·have bn:0 < -b:=by grind
  have hlt:a+b < 1:=by
   apply Classical.byContradiction
   intro hn
   obtain ⟨d,e,hc,hq⟩:=he
   have lx:=hq x hx xu
   have lv:=hq v hv vu
   have lw:=hq w hw wu
   have s1:=lx.add (lw.scale bn)
   by_cases c:a+b=1
   ·exact s1.ne (Pq.ext' (by simp only [Pq.add,Pq.scale,Pq.sub]; rw [hk.1]; show _=(0:Rat); grind) (by simp only [Pq.add,Pq.scale,Pq.sub]; rw [hk.2]; show _=(0:Rat); grind))
   ·have s2:=s1.add (lv.scale (show 0 < a+b - 1 by grind))
    exact s2.ne (Pq.ext' (by simp only [Pq.add,Pq.scale,Pq.sub]; rw [hk.1]; show _=(0:Rat); grind) (by simp only [Pq.add,Pq.scale,Pq.sub]; rw [hk.2]; show _=(0:Rat); grind))
  exact Rat.mul_pos bn (by grind)
theorem edges_get {l:List Pq} {i:Nat} (hi:i < l.length):(edgesQ l)[i]'(by rw [edges_len]; exact hi)=edgeQ l i:=by
 unfold edgesQ
 simp
theorem edge_mem {l:List Pq} {i:Nat} (hi:i < l.length):edgeQ l i ∈ edgesQ l:=by
 rw [<-edges_get hi]; exact List.getElem_mem _
/-- The vertices of a simple polygon are distinct. -/
theorem Smp.dist {l:List Pq} (h:Smp l):l.Pairwise (· ≠ ·):=by
 rw [List.pairwise_iff_getElem]
 intro i j hi hj hij e
 have hp:=h.pw
 rw [List.pairwise_iff_getElem] at hp
 have hr:=hp i j (by rw [edges_len]; exact hi) (by rw [edges_len]; exact hj) hij
 rw [edges_get hi,edges_get hj] at hr
 have ei:(edgeQ l i).a=l[i]:=by unfold edgeQ at'; rw [List.getD_eq_getElem?_getD,List.getElem?_eq_getElem hi]; rfl
 have ej:(edgeQ l j).a=l[j]:=by unfold edgeQ at'; rw [List.getD_eq_getElem?_getD,List.getElem?_eq_getElem hj]; rfl
 have o1:OnS (edgeQ l i) l[i]:=ei ▸ at_on.1
 have o2:OnS (edgeQ l j) l[i]:=by rw [e]; exact ej ▸ at_on.1
 rcases hr _ o1 o2 with ⟨_,g⟩ | ⟨_,g⟩
 ·exact h.nd _ (edge_mem hi) (ei.trans g)
 ·exact h.nd _ (edge_mem hj) (ej.trans (e.symm.trans g))
theorem path_mem:∀ {p:Pq} {l:List Pq} {e:Sq},e ∈ pathE p l->e.a ∈ p::l/\e.b ∈ l
 | _,[],e,h=>by cases h
 | p,q::r,e,h=>by
  rcases List.mem_cons.1 h with rfl | h
  ·exact ⟨by simp,by simp⟩
  ·have:=path_mem h
   exact ⟨List.mem_cons_of_mem _ this.1,List.mem_cons_of_mem _ this.2⟩
/-- The edges of a polygon with three named vertices: before v, v, behind v. -/
theorem edges_vwu (v w u:Pq) (s:List Pq):edgesQ (v::w::(s++[u]))=⟨v,w⟩::(pathE w (s++[u])++[⟨u,v⟩]):=by
 rw [edges_cons]
 have:endP v (w::(s++[u]))=u:=by
  show endP w (s++[u])=u
  exact end_snoc w s u
 rw [this]; rfl
theorem edges_wu (w u:Pq) (s:List Pq):edgesQ (w::(s++[u]))=pathE w (s++[u])++[⟨u,w⟩]:=by
 rw [edges_cons,end_snoc]
/-- Pairs of edges of such a polygon. -/
structure Vwu (v w u:Pq) (s:List Pq):Prop where
 r1:∀ e ∈ pathE w (s++[u]),RelE ⟨v,w⟩ e
 r2:RelE ⟨v,w⟩ ⟨u,v⟩
 r3:(pathE w (s++[u])).Pairwise RelE
 r4:∀ e ∈ pathE w (s++[u]),RelE e ⟨u,v⟩
 nd:∀ e ∈ pathE w (s++[u]),e.a ≠ e.b
 vw:v ≠ w
 uv:u ≠ v
 uw:u ≠ w
 vs:∀ q ∈ w::(s++[u]),q ≠ v
 ws:∀ q ∈ s++[u],q ≠ w
 us:∀ q ∈ s,q ≠ u
 ds:(w::(s++[u])).Pairwise (· ≠ ·)
theorem vwu_of {v w u:Pq} {s:List Pq} (h:Smp (v::w::(s++[u]))):Vwu v w u s:=by
 have hp:=h.pw
 have hn:=h.nd
 have hd:=h.dist
 rw [edges_vwu] at hp hn
 rw [List.pairwise_cons,List.pairwise_append] at hp
 obtain ⟨p1,p2,_,p3⟩:=hp
 rw [List.pairwise_cons,List.pairwise_cons] at hd
 obtain ⟨d1,d2,d3⟩:=hd
 have d4:=d3
 rw [List.pairwise_append] at d4
 refine ⟨fun e he=>p1 e (List.mem_append_left _ he),p1 _ (by simp),p2,fun e he=>p3 e he _ (by simp),fun e he=>hn e (by simp [he]),d1 w (by simp),fun c=>d1 u (by simp) c.symm,fun c=>d2 u (by simp) c.symm,fun q hq c=>d1 q hq c.symm,fun q hq c=>d2 q hq c.symm,fun q hq=>d4.2.2 q hq u (by simp),List.pairwise_cons.2 ⟨d2,d3⟩⟩
theorem path_split (w z:Pq) (s t:List Pq):pathE w (s++z::t)=pathE w (s++[z])++pathE z t:=by
 rw [path_app,path_app]
 simp [pathE]
theorem path_last (w z:Pq) (s:List Pq):pathE w (s++[z])=pathE w s++[⟨endP w s,z⟩]:=by
 rw [path_app]; rfl
/-- An ear: no vertex lies in the triangle at v. -/
theorem smp_ear {v w u:Pq} {s:List Pq} (h:Smp (v::w::(s++[u]))) (hD:crs v u w ≠ 0) (hs:s ≠ []) (hout:∀ q ∈ s,¬ (0<=kA v u w q/\0<=kB v u w q/\kA v u w q+kB v u w q<=1)):Smp (w::(s++[u])):=by
 have hv:=vwu_of h
 obtain ⟨y,t,rfl⟩:∃ y t,s=y::t:=by
  cases s with
  | nil=>exact absurd rfl hs
  | cons y t=>exact ⟨y,t,rfl⟩
 have hnd:∀ e ∈ pathE w (y::t++[u])++[(⟨u,w⟩:Sq)],e.a ≠ e.b:=by
  intro e he
  rcases List.mem_append.1 he with he | he
  ·exact hv.nd e he
  ·rw [List.mem_singleton.1 he]; exact hv.uw
 refine ⟨by simp,by rw [edges_wu]; exact hnd,?_⟩
 rw [edges_wu,List.pairwise_append]
 refine ⟨hv.r3,List.pairwise_singleton _ _,fun e he f hf=>?_⟩
 rw [List.mem_singleton.1 hf]
 have hm:=path_mem he
 refine ear_rel hD (hv.r4 e he) (hv.r1 e he).symm (hv.vs _ hm.1) (hv.vs _ (List.mem_cons_of_mem _ hm.2)) (hv.nd e he) ?_ ?_
 ·rintro ⟨c1,c2⟩
  rcases List.mem_cons.1 (show e ∈ (⟨w,y⟩:Sq)::pathE y (t++[u]) from he) with c | c
  ·rw [c] at c2; exact hv.us y (by simp) c2
  ·have:=(path_mem c).1
   exact hv.ws e.a (by simpa using this) c1
 ·intro q hq q1 q2
  have hin:q ∈ w::(y::t++[u]):=by
   rcases hq with rfl | rfl
   ·exact hm.1
   ·exact List.mem_cons_of_mem _ hm.2
  rcases List.mem_cons.1 hin with c | c
  ·exact absurd c q2
  ·rcases List.mem_append.1 c with c | c
   ·exact hout q c
   ·exact absurd (List.mem_singleton.1 c) q1
/-- A diagonal to the nearest vertex in the triangle cuts the polygon into two simple ones. -/
theorem smp_cut {v w u z:Pq} {s1 s2:List Pq} (h:Smp (v::w::(s1++z::s2++[u]))) (hD:crs v u w ≠ 0) (za:0 < kA v u w z) (zb:0 < kB v u w z) (zs:kA v u w z+kB v u w z<=1)
  (hm:∀ q ∈ s1++z::s2,0 < kA v u w q->0 < kB v u w q->kA v u w q+kB v u w q < 1->kA v u w z+kB v u w z<=kA v u w q+kB v u w q) :
  Smp (v::w::(s1++[z]))/\Smp (v::z::(s2++[u])):=by
 have hv:=vwu_of h
 have eM:pathE w (s1++z::s2++[u])=pathE w (s1++[z])++pathE z (s2++[u]):=by
  have:=path_split w z s1 (s2++[u])
  rw [<-this]; simp
 have hr1:=hv.r1
 have hr3:=hv.r3
 have hr4:=hv.r4
 have hnd:=hv.nd
 rw [eM] at hr1 hr3 hr4 hnd
 rw [List.pairwise_append] at hr3
 obtain ⟨p1,p2,p3⟩:=hr3
 have hzv:z ≠ v:=hv.vs z (by simp)
 have off:∀ e ∈ pathE w (s1++[z])++pathE z (s2++[u]),∀ x,OnS e x->OnS ⟨z,v⟩ x->x=z:=by
  intro e he x hx hd
  have hm2:=path_mem (eM ▸ he)
  refine diag_off hD za zb zs (hr4 e he) (hr1 e he).symm (hv.vs _ hm2.1) (hv.vs _ (List.mem_cons_of_mem _ hm2.2)) (fun q hq q1 q2 q3=>?_) hx hd
  have hin:q ∈ w::(s1++z::s2++[u]):=by
   rcases hq with rfl | rfl
   ·exact hm2.1
   ·exact List.mem_cons_of_mem _ hm2.2
  rcases List.mem_cons.1 hin with c | c
  ·rw [c,(k_w hD).1] at q1; exact absurd q1 (by decide)
  ·rcases List.mem_append.1 c with c | c
   ·exact hm q c q1 q2 q3
   ·rw [List.mem_singleton.1 c,(k_u hD).2] at q2; exact absurd q2 (by decide)
 obtain ⟨y,t,ey⟩:∃ y t,s2++[u]=y::t:=by
  cases s2 with
  | nil=>exact ⟨u,[],rfl⟩
  | cons y t=>exact ⟨y,t++[u],rfl⟩
 have fM:(⟨z,y⟩:Sq) ∈ pathE z (s2++[u]):=by rw [ey]; simp [pathE]
 have gM:(⟨endP w s1,z⟩:Sq) ∈ pathE w (s1++[z]):=by rw [path_last]; simp
 have end1:∀ e ∈ pathE w (s1++[z]),OnS e z->e.b=z:=by
  intro e he ho
  rcases p3 e he _ fM z ho at_on.1 with ⟨g,_⟩ | ⟨g,g2⟩
  ·exact g
  ·exact absurd g2 (hnd ⟨z,y⟩ (List.mem_append_right _ fM))
 have end2:∀ e ∈ pathE z (s2++[u]),OnS e z->e.a=z:=by
  intro e he ho
  rcases p3 _ gM e he z at_on.2 ho with ⟨g,_⟩ | ⟨g,g2⟩
  ·exact g.symm
  ·exact absurd (g.symm.trans g2.symm) (hnd ⟨endP w s1,z⟩ (List.mem_append_left _ gM))
 have at_v:∀ x,OnS ⟨z,v⟩ x->(kA v u w x=0\/kB v u w x=0)->x=v:=by
  rintro x ⟨t,t0,t1,rfl⟩ hk
  have eA:=kA_at v u w z v t
  have eB:=kB_at v u w z v t
  rw [k_v.1] at eA
  rw [k_v.2] at eB
  have ht:t=1:=by
   rcases hk with hk | hk
   ·have:kA v u w z*(1 - t)=0:=by rw [<-hk]; show _=kA v u w (z.at v t); rw [eA]; grind
    rcases Rat.mul_eq_zero.1 this with c | c
    ·grind
    ·grind
   ·have:kB v u w z*(1 - t)=0:=by rw [<-hk]; show _=kB v u w (z.at v t); rw [eB]; grind
    rcases Rat.mul_eq_zero.1 this with c | c
    ·grind
    ·grind
  rw [ht]
  exact Pq.ext' (by simp only [Pq.at,Pq.add,Pq.scale,Pq.sub]; grind) (by simp only [Pq.at,Pq.add,Pq.scale,Pq.sub]; grind)
 have on_vw0:∀ x,OnS ⟨v,w⟩ x->kA v u w x=0:=by
  rintro x ⟨t,t0,t1,rfl⟩
  show kA v u w (v.at w t)=0
  rw [kA_at,k_v.1,(k_w hD).1]; grind
 have on_uv0:∀ x,OnS ⟨u,v⟩ x->kB v u w x=0:=by
  rintro x ⟨t,t0,t1,rfl⟩
  show kB v u w (u.at v t)=0
  rw [kB_at,k_v.2,(k_u hD).2]; grind
 constructor
 ·refine ⟨by simp,?_,?_⟩
  ·rw [edges_vwu]
   intro e he
   rcases List.mem_cons.1 he with rfl | he
   ·exact hv.vw
   ·rcases List.mem_append.1 he with he | he
    ·exact hnd e (List.mem_append_left _ he)
    ·rw [List.mem_singleton.1 he]; exact hzv
  ·rw [edges_vwu,List.pairwise_cons,List.pairwise_append]
   refine ⟨fun e he=>?_,p1,List.pairwise_singleton _ _,fun e he f hf=>?_⟩
   ·rcases List.mem_append.1 he with he | he
    ·exact hr1 e (List.mem_append_left _ he)
    ·rw [List.mem_singleton.1 he]
     intro x h1 h2
     have:=at_v x h2 (.inl (on_vw0 x h1))
     exact .inr ⟨rfl,this⟩
   ·rw [List.mem_singleton.1 hf]
    intro x h1 h2
    have ex:=off e (List.mem_append_left _ he) x h1 h2
    have eb:=end1 e he (ex ▸ h1)
    exact .inl ⟨eb,by rw [ex,eb]⟩
 ·refine ⟨by simp,?_,?_⟩
  ·rw [edges_vwu]
   intro e he
   rcases List.mem_cons.1 he with rfl | he
   ·exact hzv.symm
   ·rcases List.mem_append.1 he with he | he
    ·exact hnd e (List.mem_append_right _ he)
    ·rw [List.mem_singleton.1 he]; exact hv.uv
  ·rw [edges_vwu,List.pairwise_cons,List.pairwise_append]
   refine ⟨fun e he=>?_,p2,List.pairwise_singleton _ _,fun e he f hf=>?_⟩
   ·rcases List.mem_append.1 he with he | he
    ·intro x h1 h2
     have ex:=off e (List.mem_append_right _ he) x h2 (on_rev (s:=⟨z,v⟩) |>.1 h1)
     have ea:=end2 e he (ex ▸ h2)
     exact .inl ⟨ea.symm,ex⟩
    ·rw [List.mem_singleton.1 he]
     intro x h1 h2
     have:=at_v x (on_rev (s:=⟨z,v⟩) |>.1 h1) (.inr (on_uv0 x h2))
     exact .inr ⟨rfl,this⟩
   ·rw [List.mem_singleton.1 hf]
    exact hr4 e (List.mem_append_right _ he)
theorem crs_z1 {v u w z:Pq} (hD:crs v u w ≠ 0):crs z v w=kA v u w z*crs u v w:=by
 have:kA v u w z*crs v u w=crs v z w:=by unfold kA; exact Rat.div_mul_cancel hD
 rw [crs_vu u v w,crs_vu z v w,<-this]; grind
theorem crs_z2 {v u w z:Pq} (hD:crs v u w ≠ 0):crs u v z=kB v u w z*crs u v w:=by
 have:kB v u w z*crs v u w=crs v u z:=by unfold kB; exact Rat.div_mul_cancel hD
 rw [crs_vu u v w,crs_vu u v z,<-this]; grind
theorem sgn_mul3 {x y c:Rat} (h1:0 < x*c) (h2:0 < y*c):0 < x*y:=by
 have h3:=Rat.mul_pos h1 h2
 have h4:=sq_nn c
 have hc:c*c ≠ 0:=by
  intro e
  have:x*c*(y*c)=x*y*(c*c):=by grind
  rw [this,e,Rat.mul_zero] at h3
  exact absurd h3 (by decide)
 apply Classical.byContradiction
 intro hn
 have:=Rat.mul_nonneg (show 0 <= -(x*y) by grind) h4
 grind
end Go.Proofs.YtkipmmiiackdaaaGreat.Sx
