/- Part 29 of what the statement needs: an executor of Go texts, arithmetic, and contracts of the functions that are called. -/
import Derived.Test.YtkipmmiiackdaaaGreatCi25
import Derived.Test.YtkipmmiiackdaaaGreatCi27
import Derived.Test.YtkipmmiiackdaaaGreatCi28
set_option linter.unusedSimpArgs false
set_option linter.unusedVariables false
set_option maxHeartbeats 8000000
set_option maxRecDepth 100000
namespace Go.Proofs.YtkipmmiiackdaaaGreat.Sx
open Env (std)
/-- Inside's answer. -/
def insS (ps:List Pt) (z:Pt):Int:=if chkA ps=0 then if canL [z]=true then sideQ (ps.map Pt.q) z.q else 0 else 0
def insE (ps:List Pt) (z:Pt):Int:=if chkA ps=0 then if canL [z]=true then 0 else 1 else 1
structure InsI (ps:List Pt) (z:Pt) (n i:Int):Prop where
 h0:0<=i
 h1:i<=n
 no:((edgesQ (ps.map Pt.q)).take i.toNat).any (fun e=>btwQ e.a e.b z.q)=false
structure InsF (ps:List Pt) (z:Pt) (n i j r:Int) (p q:Pt) (b:Bool):Prop where
 e:EdgF ps n i j r p q
 c:Con Tryz.prog 37 [.v p.v,.v q.v,.v z.v] (.v (.bool b))
 yes:b=true->onE (ps.map Pt.q) z.q=true
 no:¬ b=true->InsI ps z n j
theorem insF_ex {k:Nat} {ps:List Pt} (hp:∀ p ∈ ps,IsP k p p.q) (hl:ps.length<=4096) (hk:16*k+16<=134217728) {z:Pt} (hz:IsP k z z.q) {n i:Int} (hn:n=(ps.length:Int)) (h:InsI ps z n i) (hi:i < n):∃ j r p q b,InsF ps z n i j r p q b:=by
 obtain ⟨j,r,p,q,he⟩:=edgF_ex hn hl h.h0 hi
 obtain ⟨b,eb,kb⟩:=btw_p (hp p he.m1) (hp q he.m2) hz (by omega)
 refine ⟨j,r,p,q,b,he,kb,fun c=>?_,fun c=>⟨he.j0,he.j1,?_⟩⟩
 ·unfold onE
  rw [List.any_eq_true]
  refine ⟨⟨p.q,q.q⟩,?_,by rw [<-c,eb]⟩
  have hm:(⟨p.q,q.q⟩:Sq) ∈ (edgesQ (ps.map Pt.q)).take j.toNat:=by rw [he.st]; simp
  exact List.mem_of_mem_take hm
 ·rw [he.st,List.any_append,h.no,<-Bool.not_eq_true]
  simp
  rw [<-eb]
  simpa using c
theorem inside_z {k kz:Nat} {ps:List Pt} (hp:∀ p ∈ ps,IsP k p p.q) (hl:ps.length<=9223372036854775807) (hk:40960*k+40960<=134217728) (hk1:1<=k) (hkz:k<=kz) (hkz2:16*kz+16<=134217728) {z:Pt} (hz:IsP kz z z.q):Con Tryz.prog 30 [.ro cP ps,.v z.v] (.v (.tuple #[.int .i64 (insS ps z),.int .i64 (insE ps z)])):=by
 have kchk:=chk_a hp hl hk hk1
 have hp:=fun p h=>(hp p h).mono hkz
 have kcan2:=canonL_q (k:=kz) (ps:=[z]) (fun p h=>by rw [List.mem_singleton.1 h]; exact hz) (show kz<=134217728 by omega) (show 1<=140737488355328 by omega)
 have h64:chkA ps=0->ps.length<=64:=fun h=>Classical.byContradiction fun c=>by
  unfold chkA at h
  rw [if_pos (Or.inr (by omega))] at h
  exact absurd h (by decide)
 obtain ⟨n,hn⟩:∃ n:Int,n=ps.length:=⟨_,rfl⟩
 have hln:std.len Pt ps=n:=by rw [s_len,hn]
 obtain ⟨i0,hi0⟩:∃ i:Int,i=0:=⟨_,rfl⟩
 have hp0:0<=n->InsI ps z n i0:=fun h=>⟨by omega,by omega,by rw [hi0]; rfl⟩
 have tk9:std.tk Pt ps (std.len Pt ps)=ps:=by rw [s_tk,s_len]; exact List.take_of_length_le (by omega)
 obtain ⟨s0,es⟩:∃ r:Int,r=insS ps z:=⟨_,rfl⟩
 obtain ⟨e0,ee⟩:∃ r:Int,r=insE ps z:=⟨_,rfl⟩
 rw [<-es,<-ee]
 unfold insS at es
 unfold insE at ee
 obtain ⟨c,hc⟩:∃ c,c=chkA ps:=⟨_,rfl⟩
 obtain ⟨d,hd⟩:∃ c,c=canL [z]:=⟨_,rfl⟩
 obtain ⟨o,ho⟩:∃ c,c=oddQ (ps.map Pt.q) z.q:=⟨_,rfl⟩
 rw [<-hc] at kchk es ee h64
 rw [<-hd] at kcan2 es ee
 have kodd:c=0->Con Tryz.prog 116 [.ro cP ps,.v z.v] (.v (.bool o)):=fun h=>by rw [ho]; exact odd_q hp (by have:=h64 h; omega) (by omega) hz
 have hrnd:c=0->∀ i,InsI ps z n i->i < n->∃ j r p q b,InsF ps z n i j r p q b:=fun hc i h h'=>insF_ex hp (by have:=h64 hc; omega) (by omega) hz hn h h'
 have w1:¬ c=0->0=s0/\1=e0:=fun h=>⟨by rw [es,if_neg h],by rw [ee,if_neg h]⟩
 have w2:c=0->¬ d=true->0=s0/\1=e0:=fun h h'=>⟨by rw [es,if_pos h,if_neg h'],by rw [ee,if_pos h,if_neg h']⟩
 have w3:c=0->d=true->onE (ps.map Pt.q) z.q=true->0=s0/\0=e0:=fun h h' h2=>⟨by rw [es,if_pos h,if_pos h',sideQ,if_pos h2],by rw [ee,if_pos h,if_pos h']⟩
 have w4:c=0->d=true->∀ i,InsI ps z n i->¬ i < n->o=true->1=s0/\0=e0:=fun h h' i hi hin h3=>by
  have hno:¬ onE (ps.map Pt.q) z.q=true:=by
   have h9:=hi.no
   rw [edges_all (by rw [List.length_map]; have:=hi.h1; omega)] at h9
   unfold onE; rw [h9]; decide
  exact ⟨by rw [es,if_pos h,if_pos h',sideQ,if_neg hno,if_pos (by rw [<-ho]; exact h3)],by rw [ee,if_pos h,if_pos h']⟩
 have w5:c=0->d=true->∀ i,InsI ps z n i->¬ i < n->¬ o=true -> -1=s0/\0=e0:=fun h h' i hi hin h3=>by
  have hno:¬ onE (ps.map Pt.q) z.q=true:=by
   have h9:=hi.no
   rw [edges_all (by rw [List.length_map]; have:=hi.h1; omega)] at h9
   unfold onE; rw [h9]; decide
  exact ⟨by rw [es,if_pos h,if_pos h',sideQ,if_neg hno,if_neg (by rw [<-ho]; exact h3)],by rw [ee,if_pos h,if_pos h']⟩
 have hn0:0<=n:=by omega
 have w9:∀ {b b':Int} {i i':Int},b=b'/\i=i'->Value.tuple #[.int .i64 b,.int .i64 i]=Value.tuple #[.int .i64 b',.int .i64 i']:=fun h=>by rw [h.1,h.2]
 clear es ee hc hd ho h64 hp hl hk hk1 hz hkz hkz2
 refine Con.of ttOk mixed Tryz.func30 {} edges_ok 4 (by kernel_rfl) (fun P' E hP hE=>?_)
 cbv
 refine CallTo.w hP hE kchk ⟨(by subst hE; exact Sm.of (c:=cP) tk9),trivial⟩ ?_
 cbv
 refine fork.mk ?_ ?_
 ·intro g
  have c1:¬ c=0:=by subst hE; simpa [std] using g
  have hr:=w1 c1
  cbv
  exact w9 hr
 ·intro g
  have c1:c=0:=by subst hE; simpa [std] using g
  clear g
  cbv
  refine CallTo.w hP hE kcan2 ⟨⟨cP_ok,rfl,rfl,Nat.le_refl _⟩,trivial⟩ ?_
  cbv
  refine fork.mk ?_ ?_
  ·intro g
   have c2:¬ d=true:=by subst hE; simpa [std] using g
   have hr:=w2 c1 c2
   cbv
   exact w9 hr
  ·intro g
   have c2:d=true:=by subst hE; simpa [std] using g
   have hrnd:=hrnd c1
   have w3:=w3 c1 c2
   have w4:=w4 c1 c2
   have w5:=w5 c1 c2
   have hp0:=hp0 hn0
   have kodd:=kodd c1
   clear g
   cbv
   refine LoopTo.by (ι:=Int) (fun x=>[(6,.v (.int .i64 n)),(7,.v (.int .i64 x))]) (fun x=>[]) (fun x=>InsI ps z n x) (fun x=>(n - x).toNat) i0 [] hp0 ?_ ?_
   ·cbv
    subst hE
    and_intros
    all_goals first
     | exact True.intro
     | rfl
     | exact vi hn.symm
     | exact vj hi0.symm
     | (intro h; cases h; done)
     | (simp; done)
   ·intro i hi
    have hi:InsI ps z n i:=hi
    clear hp0
    cbv
    refine fork.mk ?_ ?_
    ·intro g
     have hlt:i < n:=by subst hE; simpa [std] using g
     refine Exists.elim (hrnd i hi hlt) ?_
     intro j h
     refine Exists.elim h ?_
     intro r h
     refine Exists.elim h ?_
     intro p h
     refine Exists.elim h ?_
     intro q h
     refine Exists.elim h ?_
     intro b hf
     have hn:n=(ps.length:Int):=hn
     have in1:0<=i/\i < (ps.length:Int):=by rw [<-hn]; exact hf.e.in1
     have hadd:=hf.e.add
     have hnz:std.nz .rem (std.len Pt ps):=by show (ps.length:Int) ≠ 0; have:=hf.e.nz; rw [<-hn]; exact this
     have hrem:std.ib .rem .i64 (std.ib .add .i64 i 1) (std.len Pt ps)=r:=by rw [hadd,s_len,<-hn]; exact hf.e.rem
     have in2:0<=std.ib .rem .i64 (std.ib .add .i64 i 1) (std.len Pt ps)/\std.ib .rem .i64 (std.ib .add .i64 i 1) (std.len Pt ps) < (ps.length:Int):=by rw [hrem,<-hn]; exact hf.e.in2
     have hg1:=hf.e.g1
     have hg2:std.get Pt ps (std.ib .rem .i64 (std.ib .add .i64 i 1) (std.len Pt ps)) zQ=q:=by rw [hrem]; exact hf.e.g2
     have kbt:=hf.c
     have hyes:=hf.yes
     have hno:=hf.no
     have hmu:=hf.e.mu
     clear hf h hi hlt g
     cbv
     refine Need.mk (by subst hE; exact in1) ?_
     cbv
     refine Need.mk (by subst hE; exact hnz) ?_
     cbv
     refine Need.mk (by subst hE; exact in2) ?_
     cbv
     refine CallTo.w hP hE kbt ⟨(by subst hE; exact congrArg (fun p:Pt=>p.v) hg1),(by subst hE; exact congrArg (fun p:Pt=>p.v) hg2),rfl,trivial⟩ ?_
     cbv
     refine fork.mk ?_ ?_
     ·intro g
      have hr:=w3 (hyes (by simpa using g))
      cbv
      exact w9 hr
     ·intro g
      have hst:=hno (by simpa using g)
      cbv
      refine ⟨j,[],hst,hmu,?_⟩
      cbv
      subst hE
      and_intros
      all_goals first
       | exact True.intro
       | rfl
       | exact vi hadd
       | exact vj hadd
       | (simp; done)
       | (intro h; cases h; done)
    ·intro g
     have hge:¬ i < n:=by subst hE; simpa [std] using g
     have w4:=w4 i hi hge
     have w5:=w5 i hi hge
     clear hi hge hrnd g
     cbv
     refine CallTo.w hP hE kodd ⟨(by subst hE; exact Sm.of (c:=cP) tk9),rfl,trivial⟩ ?_
     cbv
     refine fork.mk ?_ ?_
     ·intro g
      have hr:=w4 (by simpa using g)
      cbv
      exact w9 hr
     ·intro g
      have hr:=w5 (by simpa using g)
      cbv
      exact w9 hr
theorem inside_q {k:Nat} {ps:List Pt} (hp:∀ p ∈ ps,IsP k p p.q) (hl:ps.length<=9223372036854775807) (hk:40960*k+40960<=134217728) (hk1:1<=k) {z:Pt} (hz:IsP k z z.q):Con Tryz.prog 30 [.ro cP ps,.v z.v] (.v (.tuple #[.int .i64 (insS ps z),.int .i64 (insE ps z)])):=
 inside_z hp hl hk hk1 (Nat.le_refl k) (by omega) hz
/-- Centroid's answer. -/
def cenP (ps:List Pt):Pt:=if chkA ps=0 then crP (centQ (ps.map Pt.q)) else zQ
def cenE (ps:List Pt):Int:=if chkA ps=0 then 0 else 1
structure CenI (ps:List Pt) (m:Nat) (n i:Int) (s:Pt):Prop where
 h0:0<=i
 h1:i<=n
 is:IsP m s (sumP centE ((edgesQ (ps.map Pt.q)).take i.toNat))
structure CenF (ps:List Pt) (m:Nat) (n i:Int) (s:Pt) (j r:Int) (p q a:Pt) (c:R) (d s':Pt):Prop where
 e:EdgF ps n i j r p q
 ad:Con Tryz.prog 27 [.v p.v,.v q.v] (.v a.v)
 cr:Con Tryz.prog 112 [.v p.v,.v q.v] (.v c.v)
 sc:Con Tryz.prog 31 [.v a.v,.v c.v] (.v d.v)
 ad2:Con Tryz.prog 27 [.v s.v,.v d.v] (.v s'.v)
 st:CenI ps m n j s'
theorem centE_bd {k:Nat} {e:Sq} (h:BdS k e):BdP (6*k+2) (centE e):=((h.a.add h.b).scale (crE_bd h)).mono (by omega)
theorem cen_bd {k:Nat} {l:List Pq} (hl:l.length<=64) (hp:∀ q ∈ l,BdP k q) (hk1:1<=k) (i:Nat):BdP (384*k+193) (sumP centE ((edgesQ l).take i)):=by
 have h:=sumP_bd (f:=centE) (m:=6*k+2) ((edgesQ l).take i) (fun e he=>centE_bd (edges_bd hp e (List.mem_of_mem_take he)))
 refine h.mono ?_
 have h2:((edgesQ l).take i).length<=64:=by rw [List.length_take,edges_len]; omega
 have h3:((edgesQ l).take i).length*(6*k+2+1)<=64*(6*k+3):=Nat.mul_le_mul_right _ h2
 omega
theorem cenF_ex {k:Nat} {ps:List Pt} (hp:∀ p ∈ ps,IsP k p p.q) (hl:ps.length<=64) (hk:40960*k+40960<=134217728) {n i:Int} {s:Pt} (hn:n=(ps.length:Int)) (h:CenI ps (384*k+193) n i s) (hi:i < n):∃ j r p q a c d s',CenF ps (384*k+193) n i s j r p q a c d s':=by
 obtain ⟨j,r,p,q,he⟩:=edgF_ex hn (by omega) h.h0 hi
 have hk1:1<=k:=(hp p he.m1).b.x.pos
 obtain ⟨a,ea,ha,ka⟩:=vadd_p (hp p he.m1) (hp q he.m2) (by omega)
 obtain ⟨c,ec,hc,kc⟩:=vcross_p (hp p he.m1) (hp q he.m2) (by omega)
 obtain ⟨d,ed,hd,kd⟩:=vscale_p ha hc (by omega)
 obtain ⟨s',es,hs,ks⟩:=vadd_p h.is hd (by omega)
 have e2:(sumP centE ((edgesQ (ps.map Pt.q)).take i.toNat)).add ((p.q.add q.q).scale (p.q.cross q.q))=sumP centE ((edgesQ (ps.map Pt.q)).take j.toNat):=by rw [he.st,sumP_snoc]; rfl
 refine ⟨j,r,p,q,a,c,d,s',he,ka,kc,kd,ks,he.j0,he.j1,?_⟩
 rw [es,e2]
 exact (cen_bd (by rw [List.length_map]; exact hl) (pts_bd hp) hk1 _).is
/-- What comes behind the loop. -/
structure CenG (ps:List Pt) (s:Pt) (r0:Pt) (x1 x6 ar m:R) (t:R) (e:Int):Prop where
 o1:Con Tryz.prog 44 [.v (.int .i64 1)] (.v x1.v)
 o6:Con Tryz.prog 44 [.v (.int .i64 6)] (.v x6.v)
 kar:Con Tryz.prog 32 [.ro cP ps] (.v ar.v)
 mu:Con Tryz.prog 46 [.v x6.v,.v ar.v] (.v m.v)
 qu:Con Tryz.prog 43 [.v x1.v,.v m.v] (.v (.tuple #[t.v,.int .i64 e]))
 sc:Con Tryz.prog 31 [.v s.v,.v t.v] (.v r0.v)
theorem cenG_ex {k:Nat} {ps:List Pt} (hp:∀ p ∈ ps,IsP k p p.q) (hl:ps.length<=64) (hk:40960*k+40960<=134217728) (hk1:1<=k) {n i:Int} {s:Pt} (hn:n=(ps.length:Int)) (h:CenI ps (384*k+193) n i s) (hi:¬ i < n):∃ x1 x6 ar m t e,CenG ps s (crP (centQ (ps.map Pt.q))) x1 x6 ar m t e:=by
 have k1:=ofQ_q 1 (by decide) (by decide)
 have k6:=ofQ_q 6 (by decide) (by decide)
 have h1:Is 8 (cr ((1:Int):Rat)) ((1:Int):Rat):=(bd_int (by decide)).is
 have h6:Is 8 (cr ((6:Int):Rat)) ((6:Int):Rat):=(bd_int (by decide)).is
 have ka:=area_q hp (by omega) hk hk1
 have ha:=(area_bd (l:=ps.map Pt.q) (by rw [List.length_map]; omega) (pts_bd hp) hk1).is
 obtain ⟨m,em,hm,km⟩:=mul_p h6 ha (by omega)
 obtain ⟨t,e,et,ht,_,kt⟩:=quo_p h1 hm (by omega)
 obtain ⟨d,ed,hd,kd⟩:=vscale_p h.is ht (by omega)
 have e2:d=crP (centQ (ps.map Pt.q)):=by
  rw [ed,edges_all (by rw [List.length_map]; have:=h.h1; omega)]; rfl
 rw [e2] at kd
 exact ⟨_,_,_,m,t,e,k1,k6,ka,km,kt,kd⟩
theorem centroid_q {k:Nat} {ps:List Pt} (hp:∀ p ∈ ps,IsP k p p.q) (hl:ps.length<=9223372036854775807) (hk:40960*k+40960<=134217728) (hk1:1<=k):Con Tryz.prog 26 [.ro cP ps] (.v (.tuple #[(cenP ps).v,.int .i64 (cenE ps)])):=by
 have kchk:=chk_a hp hl hk hk1
 have h64:chkA ps=0->ps.length<=64:=fun h=>Classical.byContradiction fun c=>by
  unfold chkA at h
  rw [if_pos (Or.inr (by omega))] at h
  exact absurd h (by decide)
 obtain ⟨n,hn⟩:∃ n:Int,n=ps.length:=⟨_,rfl⟩
 have hln:std.len Pt ps=n:=by rw [s_len,hn]
 obtain ⟨i0,hi0⟩:∃ i:Int,i=0:=⟨_,rfl⟩
 obtain ⟨s0,hs0⟩:∃ s:Pt,s=zQ:=⟨_,rfl⟩
 have hp0:CenI ps (384*k+193) n i0 s0:=⟨by omega,by omega,by
  rw [hs0,hi0]
  show IsP _ _ Pq.zero
  have hz:=(Bd.zero (k:=384*k+193) (by omega)).is
  have e:cr 0=⟨false,⟨#[]⟩,⟨#[]⟩⟩:=cr_zero
  rw [e] at hz; exact ⟨hz,hz⟩⟩
 have tk9:std.tk Pt ps (std.len Pt ps)=ps:=by rw [s_tk,s_len]; exact List.take_of_length_le (by omega)
 obtain ⟨r0,er⟩:∃ r:Pt,r=cenP ps:=⟨_,rfl⟩
 obtain ⟨e0,ee⟩:∃ r:Int,r=cenE ps:=⟨_,rfl⟩
 rw [<-er,<-ee]
 unfold cenP at er
 unfold cenE at ee
 obtain ⟨c,hc⟩:∃ c,c=chkA ps:=⟨_,rfl⟩
 rw [<-hc] at kchk er ee h64
 have hrnd:c=0->∀ i s,CenI ps (384*k+193) n i s->i < n->∃ j r p q a c d s',CenF ps (384*k+193) n i s j r p q a c d s':=fun hc i s h h'=>cenF_ex hp (h64 hc) hk hn h h'
 have hfin:c=0->∀ i s,CenI ps (384*k+193) n i s->¬ i < n->∃ x1 x6 ar m t e,CenG ps s r0 x1 x6 ar m t e:=fun hc i s h h'=>by
  rw [er,if_pos hc]
  exact cenG_ex hp (h64 hc) hk hk1 hn h h'
 have w1:¬ c=0->zQ=r0/\1=e0:=fun h=>⟨by rw [er,if_neg h],by rw [ee,if_neg h]⟩
 have w2:c=0->0=e0:=fun h=>by rw [ee,if_pos h]
 have w9:∀ {b b':Pt} {i i':Int},b=b'/\i=i'->Value.tuple #[b.v,.int .i64 i]=Value.tuple #[b'.v,.int .i64 i']:=fun h=>by rw [h.1,h.2]
 clear er ee hc h64 hp hl hk hk1
 refine Con.of ttOk mixed Tryz.func26 { ord:=[(7,[0,1,2,4,5,3,6,7,8,9])] } edges_ok 4 (by kernel_rfl) (fun P' E hP hE=>?_)
 cbv
 refine CallTo.w hP hE kchk ⟨(by subst hE; exact Sm.of (c:=cP) tk9),trivial⟩ ?_
 cbv
 refine fork.mk ?_ ?_
 ·intro g
  have c1:¬ c=0:=by subst hE; simpa [std] using g
  have hr:=w1 c1
  cbv
  exact w9 hr
 ·intro g
  have c1:c=0:=by subst hE; simpa [std] using g
  have hrnd:=hrnd c1
  have hfin:=hfin c1
  have w2:=w2 c1
  clear g
  cbv
  refine LoopTo.by (ι:=Int × Pt) (fun x=>[(6,.v (.int .i64 n)),(7,.v (.int .i64 x.1))]) (fun x=>[(2,.cells x.2.av 33)]) (fun x=>CenI ps (384*k+193) n x.1 x.2) (fun x=>(n - x.1).toNat) (i0,s0) [] hp0 ?_ ?_
  ·cbv
   subst hE
   and_intros
   all_goals first
    | exact True.intro
    | rfl
    | exact vi hn.symm
    | exact vj hi0.symm
    | exact congrArg (fun s:Pt=>AV.v (Value.bool s.x.neg)) hs0.symm
    | exact congrArg (fun s:Pt=>AV.v (Value.string s.x.num)) hs0.symm
    | exact congrArg (fun s:Pt=>AV.v (Value.string s.x.den)) hs0.symm
    | exact congrArg (fun s:Pt=>AV.v (Value.bool s.y.neg)) hs0.symm
    | exact congrArg (fun s:Pt=>AV.v (Value.string s.y.num)) hs0.symm
    | exact congrArg (fun s:Pt=>AV.v (Value.string s.y.den)) hs0.symm
    | (intro h; cases h; done)
  ·rintro ⟨i,s⟩ hi
   have hi:CenI ps (384*k+193) n i s:=hi
   clear hp0
   cbv
   refine fork.mk ?_ ?_
   ·intro g
    have hlt:i < n:=by subst hE; simpa [std] using g
    refine Exists.elim (hrnd i s hi hlt) ?_
    intro j h
    refine Exists.elim h ?_
    intro r h
    refine Exists.elim h ?_
    intro p h
    refine Exists.elim h ?_
    intro q h
    refine Exists.elim h ?_
    intro a h
    refine Exists.elim h ?_
    intro c h
    refine Exists.elim h ?_
    intro d h
    refine Exists.elim h ?_
    intro s' hf
    have hn:n=(ps.length:Int):=hn
    have in1:0<=i/\i < (ps.length:Int):=by rw [<-hn]; exact hf.e.in1
    have hadd:=hf.e.add
    have hnz:std.nz .rem (std.len Pt ps):=by show (ps.length:Int) ≠ 0; have:=hf.e.nz; rw [<-hn]; exact this
    have hrem:std.ib .rem .i64 (std.ib .add .i64 i 1) (std.len Pt ps)=r:=by rw [hadd,s_len,<-hn]; exact hf.e.rem
    have in2:0<=std.ib .rem .i64 (std.ib .add .i64 i 1) (std.len Pt ps)/\std.ib .rem .i64 (std.ib .add .i64 i 1) (std.len Pt ps) < (ps.length:Int):=by rw [hrem,<-hn]; exact hf.e.in2
    have hg1:=hf.e.g1
    have hg2:std.get Pt ps (std.ib .rem .i64 (std.ib .add .i64 i 1) (std.len Pt ps)) zQ=q:=by rw [hrem]; exact hf.e.g2
    have kad:=hf.ad
    have kcr:=hf.cr
    have ksc:=hf.sc
    have kad2:=hf.ad2
    have hst:=hf.st
    have hmu:=hf.e.mu
    clear hf h hi hlt g
    cbv
    refine Need.mk (by subst hE; exact in1) ?_
    cbv
    refine Need.mk (by subst hE; exact hnz) ?_
    cbv
    refine Need.mk (by subst hE; exact in2) ?_
    cbv
    refine CallTo.w hP hE kad ⟨(by subst hE; exact congrArg (fun p:Pt=>p.v) hg1),(by subst hE; exact congrArg (fun p:Pt=>p.v) hg2),trivial⟩ ?_
    cbv
    refine CallTo.w hP hE kcr ⟨(by subst hE; exact congrArg (fun p:Pt=>p.v) hg1),(by subst hE; exact congrArg (fun p:Pt=>p.v) hg2),trivial⟩ ?_
    cbv
    refine CallTo.w hP hE ksc ⟨rfl,rfl,trivial⟩ ?_
    cbv
    refine CallTo.w hP hE kad2 ⟨rfl,rfl,trivial⟩ ?_
    cbv
    refine ⟨(j,s'),[],hst,hmu,?_⟩
    cbv
    subst hE
    and_intros
    all_goals first
     | exact True.intro
     | rfl
     | exact vi hadd
     | exact vj hadd
     | (simp; done)
     | (intro h; cases h; done)
   ·intro g
    have hge:¬ i < n:=by subst hE; simpa [std] using g
    have hx:=hfin i s hi hge
    clear hi hge hfin hrnd g
    cbv
    refine Exists.elim hx ?_
    intro x1 h
    refine Exists.elim h ?_
    intro x6 h
    refine Exists.elim h ?_
    intro ar h
    refine Exists.elim h ?_
    intro m h
    refine Exists.elim h ?_
    intro t h
    refine Exists.elim h ?_
    intro e hf
    have k1:=hf.o1
    have k6:=hf.o6
    have ka:=hf.kar
    have km:=hf.mu
    have kq:=hf.qu
    have ks:=hf.sc
    clear hf h
    refine CallTo.w hP hE k1 ⟨rfl,trivial⟩ ?_
    cbv
    refine CallTo.w hP hE k6 ⟨rfl,trivial⟩ ?_
    cbv
    refine CallTo.w hP hE ka ⟨(by subst hE; exact Sm.of (c:=cP) tk9),trivial⟩ ?_
    cbv
    refine CallTo.w hP hE km ⟨rfl,rfl,trivial⟩ ?_
    cbv
    refine CallTo.w hP hE kq ⟨rfl,rfl,trivial⟩ ?_
    cbv
    refine CallTo.w hP hE ks ⟨rfl,rfl,trivial⟩ ?_
    cbv
    exact w9 ⟨rfl,w2⟩
def eqL:List Pt->List Pt->Bool
 | [],[]=>true
 | p::a,q::b=>eqCells p.c q.c && eqL a b
 | _,_=>false
theorem eqL_iff:∀ {a b:List Pt},eqL a b=true ↔ a=b
 | [],[]=>by simp [eqL]
 | [],_::_=>by simp [eqL]
 | _::_,[]=>by simp [eqL]
 | p::a,q::b=>by
  rw [eqL,Bool.and_eq_true,eqL_iff,eqc_P,List.cons.injEq]
structure SamI (a b:List Pt) (n i:Int):Prop where
 h0:0<=i
 h1:i<=n
 eq:a.take i.toNat=b.take i.toNat
structure SamF (a b:List Pt) (n i j:Int) (p q:Pt):Prop where
 in1:0<=i/\i < (a.length:Int)
 in2:0<=i/\i < (b.length:Int)
 add:std.ib .add .i64 i 1=j
 g1:std.get Pt a i zQ=p
 g2:std.get Pt b i zQ=q
 yes:p=q->SamI a b n j
 no:¬ p=q->a ≠ b
 mu:(n - j).toNat < (n - i).toNat
theorem samF_ex {a b:List Pt} {n i:Int} (ha:n=(a.length:Int)) (hb:n=(b.length:Int)) (hl:a.length<=140737488355328) (h:SamI a b n i) (hi:i < n):∃ j p q,SamF a b n i j p q:=by
 have h0:=h.h0
 obtain ⟨j,p,hp⟩:=lstF_ex ha hl h0 hi
 obtain ⟨j',q,hq⟩:=lstF_ex hb (by omega) h0 hi
 have ej:j'=j:=by rw [hp.ej,hq.ej]
 subst ej
 refine ⟨j',p,q,hp.in1,hq.in1,hp.add,hp.g1,hq.g1,fun e=>⟨hp.j0,hp.j1,by rw [hp.tk,hq.tk,h.eq,e]⟩,fun e e2=>?_,hp.mu⟩
 have h9:=hp.tk
 rw [e2,hq.tk] at h9
 exact e (by simpa using h9.symm)
theorem same_q (a b:List Pt) (hl:a.length<=140737488355328):Con Tryz.prog 22 [.ro cP a,.ro cP b] (.v (.bool (eqL a b))):=by
 obtain ⟨r,hr⟩:∃ r,r=eqL a b:=⟨_,rfl⟩
 rw [<-hr]
 have hrt:a=b->r=true:=fun e=>by rw [hr]; exact eqL_iff.2 e
 have hrf:¬ a=b->r=false:=fun e=>by rw [hr,<-Bool.not_eq_true]; exact fun c=>e (eqL_iff.1 c)
 obtain ⟨n,hn⟩:∃ n:Int,n=a.length:=⟨_,rfl⟩
 obtain ⟨m,hm⟩:∃ n:Int,n=b.length:=⟨_,rfl⟩
 have hln:std.len Pt a=n:=by rw [s_len,hn]
 have hlm:std.len Pt b=m:=by rw [s_len,hm]
 obtain ⟨i0,hi0⟩:∃ i:Int,i=0:=⟨_,rfl⟩
 have hp0:SamI a b n i0:=⟨by omega,by omega,by rw [hi0]; rfl⟩
 have w1:¬ n=m->r=false:=fun h=>hrf (fun e=>h (by rw [hn,hm,e]))
 have hrnd:n=m->∀ i,SamI a b n i->i < n->∃ j p q,SamF a b n i j p q:=fun e i h h'=>samF_ex hn (by omega) hl h h'
 have hfin:n=m->∀ i,SamI a b n i->¬ i < n->r=true:=fun e i h h'=>hrt (by
  have h9:=h.eq
  have:=h.h1
  rw [List.take_of_length_le (by omega),List.take_of_length_le (by omega)] at h9
  exact h9)
 clear hr
 refine Con.of ttOk mixed Tryz.func22 {} (InlOk.cons (g:={ ord:=[(6,[0,1,2,3,4,5,6,7,8])] }) Tryz.func109 (by kernel_rfl) .nil) 2 (by kernel_rfl) (fun P' E hP hE=>?_)
 cbv
 refine fork.mk ?_ ?_
 ·intro g
  have c1:¬ n=m:=by subst hE; rw [<-hln,<-hlm]; simpa [std] using g
  have hx:=w1 c1
  cbv
  exact congrArg Value.bool hx.symm
 ·intro g
  have c1:n=m:=by subst hE; rw [<-hln,<-hlm]; simpa [std] using g
  have hrnd:=hrnd c1
  have hfin:=hfin c1
  clear g w1 hrt
  cbv
  refine LoopTo.by (ι:=Int) (fun x=>[(12,.v (.int .i64 n)),(13,.v (.int .i64 x))]) (fun x=>[]) (fun x=>SamI a b n x) (fun x=>(n - x).toNat) i0 [] hp0 ?_ ?_
  ·cbv
   subst hE
   and_intros
   all_goals first
    | exact True.intro
    | rfl
    | exact vi hn.symm
    | exact vj hi0.symm
    | (simp; done)
  ·intro i hi
   have hi:SamI a b n i:=hi
   clear hp0
   cbv
   refine fork.mk ?_ ?_
   ·intro g
    have hlt:i < n:=by subst hE; simpa [std] using g
    refine Exists.elim (hrnd i hi hlt) ?_
    intro j h
    refine Exists.elim h ?_
    intro p h
    refine Exists.elim h ?_
    intro q hf
    have in1:=hf.in1
    have in2:=hf.in2
    have hadd:=hf.add
    have hg1:=hf.g1
    have hg2:=hf.g2
    have hyes:=hf.yes
    have hno:=hf.no
    have hmu:=hf.mu
    have hrf:a ≠ b->r=false:=hrf
    clear hf h hi hlt g hrnd hfin
    cbv
    refine Need.mk (by subst hE; exact in1) ?_
    cbv
    refine Need.mk (by subst hE; exact in2) ?_
    cbv
    refine fork.mk ?_ ?_
    ·intro g
     have c2:¬ p=q:=by
      subst hE
      have g:(!eqCells (std.get Pt a i zQ).c (std.get Pt b i zQ).c)=true:=g
      rw [hg1,hg2] at g
      exact fun e=>by rw [(eqc_P p q).2 e] at g; exact absurd g (by decide)
     have hx:=hrf (hno c2)
     cbv
     exact congrArg Value.bool hx.symm
    ·intro g
     have c2:p=q:=by
      subst hE
      have g:(!eqCells (std.get Pt a i zQ).c (std.get Pt b i zQ).c)=false:=g
      rw [hg1,hg2] at g
      exact (eqc_P p q).1 (by simpa using g)
     have hst:=hyes c2
     cbv
     refine ⟨j,[],hst,hmu,?_⟩
     cbv
     subst hE
     and_intros
     all_goals first
      | exact True.intro
      | rfl
      | exact vi hadd
      | exact vj hadd
      | (simp; done)
   ·intro g
    have hge:¬ i < n:=by subst hE; simpa [std] using g
    have hx:=hfin i hi hge
    clear hi hge hfin hrnd g
    cbv
    exact congrArg Value.bool hx.symm
end Go.Proofs.YtkipmmiiackdaaaGreat.Sx
