/- Part 33 of what the statement needs: an executor of Go texts, arithmetic, and contracts of the functions that are called. -/
import Derived.Test.YtkipmmiiackdaaaGreatCa29
import Derived.Test.YtkipmmiiackdaaaGreatCa32
set_option linter.unusedSimpArgs false
set_option linter.unusedVariables false
set_option maxHeartbeats 8000000
set_option maxRecDepth 100000
namespace Go.Proofs.YtkipmmiiackdaaaGreat.Sx
open Env (std)
/-- Inside's answer. -/
def insS (ps:List Pt) (z:Pt):Int:=if chkA ps=0 then if canL [z]=true then sideQ (ps.map Pt.q) z.q else 0 else 0
def insE (ps:List Pt) (z:Pt):Int:=if chkA ps=0 then if canL [z]=true then 0 else 1 else 1
structure InsI (ps:List Pt) (z:Pt) (n i:Int):Prop where
 h0:0<=i
 h1:i<=n
 no:((edgesQ (ps.map Pt.q)).take i.toNat).any (fun e=>btwQ e.a e.b z.q)=false
structure InsF (ps:List Pt) (z:Pt) (n i j r:Int) (p q:Pt) (b:Bool):Prop where
 e:EdgF ps n i j r p q
 c:Con Tryz.prog 37 [.v p.v,.v q.v,.v z.v] (.v (.bool b))
 yes:b=true->onE (ps.map Pt.q) z.q=true
 no:¬ b=true->InsI ps z n j
theorem insF_ex {k:Nat} {ps:List Pt} (hp:∀ p ∈ ps,IsP k p p.q) (hl:ps.length<=4096) (hk:16*k+16<=134217728) {z:Pt} (hz:IsP k z z.q) {n i:Int} (hn:n=(ps.length:Int)) (h:InsI ps z n i) (hi:i < n):∃ j r p q b,InsF ps z n i j r p q b:=by
 obtain ⟨j,r,p,q,he⟩:=edgF_ex hn hl h.h0 hi
 obtain ⟨b,eb,kb⟩:=btw_p (hp p he.m1) (hp q he.m2) hz (by omega)
 refine ⟨j,r,p,q,b,he,kb,fun c=>?_,fun c=>⟨he.j0,he.j1,?_⟩⟩
 ·unfold onE
  rw [List.any_eq_true]
  refine ⟨⟨p.q,q.q⟩,?_,by rw [<-c,eb]⟩
  have hm:(⟨p.q,q.q⟩:Sq) ∈ (edgesQ (ps.map Pt.q)).take j.toNat:=by rw [he.st]; simp
  exact List.mem_of_mem_take hm
 ·rw [he.st,List.any_append,h.no,<-Bool.not_eq_true]
  simp
  rw [<-eb]
  simpa using c
theorem inside_z {k kz:Nat} {ps:List Pt} (hp:∀ p ∈ ps,IsP k p p.q) (hl:ps.length<=9223372036854775807) (hk:40960*k+40960<=134217728) (hk1:1<=k) (hkz:k<=kz) (hkz2:16*kz+16<=134217728) {z:Pt} (hz:IsP kz z z.q):Con Tryz.prog 30 [.ro cP ps,.v z.v] (.v (.tuple #[.int .i64 (insS ps z),.int .i64 (insE ps z)])):=by
 have kchk:=chk_a hp hl hk hk1
 have hp:=fun p h=>(hp p h).mono hkz
 have kcan2:=canonL_q (k:=kz) (ps:=[z]) (fun p h=>by rw [List.mem_singleton.1 h]; exact hz) (show kz<=134217728 by omega) (show 1<=140737488355328 by omega)
 have h64:chkA ps=0->ps.length<=64:=fun h=>Classical.byContradiction fun c=>by
  unfold chkA at h
  rw [if_pos (Or.inr (by omega))] at h
  exact absurd h (by decide)
 obtain ⟨n,hn⟩:∃ n:Int,n=ps.length:=⟨_,rfl⟩
 have hln:std.len Pt ps=n:=by rw [s_len,hn]
 obtain ⟨i0,hi0⟩:∃ i:Int,i=0:=⟨_,rfl⟩
 have hp0:0<=n->InsI ps z n i0:=fun h=>⟨by omega,by omega,by rw [hi0]; rfl⟩
 have tk9:std.tk Pt ps (std.len Pt ps)=ps:=by rw [s_tk,s_len]; exact List.take_of_length_le (by omega)
 obtain ⟨s0,es⟩:∃ r:Int,r=insS ps z:=⟨_,rfl⟩
 obtain ⟨e0,ee⟩:∃ r:Int,r=insE ps z:=⟨_,rfl⟩
 rw [<-es,<-ee]
 unfold insS at es
 unfold insE at ee
 obtain ⟨c,hc⟩:∃ c,c=chkA ps:=⟨_,rfl⟩
 obtain ⟨d,hd⟩:∃ c,c=canL [z]:=⟨_,rfl⟩
 obtain ⟨o,ho⟩:∃ c,c=oddQ (ps.map Pt.q) z.q:=⟨_,rfl⟩
 rw [<-hc] at kchk es ee h64
 rw [<-hd] at kcan2 es ee
 have kodd:c=0->Con Tryz.prog 116 [.ro cP ps,.v z.v] (.v (.bool o)):=fun h=>by rw [ho]; exact odd_q hp (by have:=h64 h; omega) (by omega) hz
 have hrnd:c=0->∀ i,InsI ps z n i->i < n->∃ j r p q b,InsF ps z n i j r p q b:=fun hc i h h'=>insF_ex hp (by have:=h64 hc; omega) (by omega) hz hn h h'
 have w1:¬ c=0->0=s0/\1=e0:=fun h=>⟨by rw [es,if_neg h],by rw [ee,if_neg h]⟩
 have w2:c=0->¬ d=true->0=s0/\1=e0:=fun h h'=>⟨by rw [es,if_pos h,if_neg h'],by rw [ee,if_pos h,if_neg h']⟩
 have w3:c=0->d=true->onE (ps.map Pt.q) z.q=true->0=s0/\0=e0:=fun h h' h2=>⟨by rw [es,if_pos h,if_pos h',sideQ,if_pos h2],by rw [ee,if_pos h,if_pos h']⟩
 have w4:c=0->d=true->∀ i,InsI ps z n i->¬ i < n->o=true->1=s0/\0=e0:=fun h h' i hi hin h3=>by
  have hno:¬ onE (ps.map Pt.q) z.q=true:=by
   have h9:=hi.no
   rw [edges_all (by rw [List.length_map]; have:=hi.h1; omega)] at h9
   unfold onE; rw [h9]; decide
  exact ⟨by rw [es,if_pos h,if_pos h',sideQ,if_neg hno,if_pos (by rw [<-ho]; exact h3)],by rw [ee,if_pos h,if_pos h']⟩
 have w5:c=0->d=true->∀ i,InsI ps z n i->¬ i < n->¬ o=true -> -1=s0/\0=e0:=fun h h' i hi hin h3=>by
  have hno:¬ onE (ps.map Pt.q) z.q=true:=by
   have h9:=hi.no
   rw [edges_all (by rw [List.length_map]; have:=hi.h1; omega)] at h9
   unfold onE; rw [h9]; decide
  exact ⟨by rw [es,if_pos h,if_pos h',sideQ,if_neg hno,if_neg (by rw [<-ho]; exact h3)],by rw [ee,if_pos h,if_pos h']⟩
 have hn0:0<=n:=by omega
 have w9:∀ {b b':Int} {i i':Int},b=b'/\i=i'->Value.tuple #[.int .i64 b,.int .i64 i]=Value.tuple #[.int .i64 b',.int .i64 i']:=fun h=>by rw [h.1,h.2]
 clear es ee hc hd ho h64 hp hl hk hk1 hz hkz hkz2
 refine Con.of ttOk mixed Tryz.func30 {} edges_ok 4 (by kernel_rfl) (fun P' E hP hE=>?_)
 cbv
 refine CallTo.w hP hE kchk ⟨(by subst hE; exact Sm.of (c:=cP) tk9),trivial⟩ ?_
 cbv
 refine fork.mk ?_ ?_
 ·intro g
  have c1:¬ c=0:=by subst hE; simpa [std] using g
  have hr:=w1 c1
  cbv
  exact w9 hr
 ·intro g
  have c1:c=0:=by subst hE; simpa [std] using g
  clear g
  cbv
  refine CallTo.w hP hE kcan2 ⟨⟨cP_ok,rfl,rfl,Nat.le_refl _⟩,trivial⟩ ?_
  cbv
  refine fork.mk ?_ ?_
  ·intro g
   have c2:¬ d=true:=by subst hE; simpa [std] using g
   have hr:=w2 c1 c2
   cbv
   exact w9 hr
  ·intro g
   have c2:d=true:=by subst hE; simpa [std] using g
   have hrnd:=hrnd c1
   have w3:=w3 c1 c2
   have w4:=w4 c1 c2
   have w5:=w5 c1 c2
   have hp0:=hp0 hn0
   have kodd:=kodd c1
   clear g
   cbv
   refine LoopTo.by (ι:=Int) (fun x=>[(6,.v (.int .i64 n)),(7,.v (.int .i64 x))]) (fun x=>[]) (fun x=>InsI ps z n x) (fun x=>(n - x).toNat) i0 [] hp0 ?_ ?_
   ·cbv
    subst hE
    and_intros
    all_goals first
     | exact True.intro
     | rfl
     | exact vi hn.symm
     | exact vj hi0.symm
     | (intro h; cases h; done)
     | (simp; done)
   ·intro i hi
    have hi:InsI ps z n i:=hi
    clear hp0
    cbv
    refine fork.mk ?_ ?_
    ·intro g
     have hlt:i < n:=by subst hE; simpa [std] using g
     refine Exists.elim (hrnd i hi hlt) ?_
     intro j h
     refine Exists.elim h ?_
     intro r h
     refine Exists.elim h ?_
     intro p h
     refine Exists.elim h ?_
     intro q h
     refine Exists.elim h ?_
     intro b hf
     have hn:n=(ps.length:Int):=hn
     have in1:0<=i/\i < (ps.length:Int):=by rw [<-hn]; exact hf.e.in1
     have hadd:=hf.e.add
     have hnz:std.nz .rem (std.len Pt ps):=by show (ps.length:Int) ≠ 0; have:=hf.e.nz; rw [<-hn]; exact this
     have hrem:std.ib .rem .i64 (std.ib .add .i64 i 1) (std.len Pt ps)=r:=by rw [hadd,s_len,<-hn]; exact hf.e.rem
     have in2:0<=std.ib .rem .i64 (std.ib .add .i64 i 1) (std.len Pt ps)/\std.ib .rem .i64 (std.ib .add .i64 i 1) (std.len Pt ps) < (ps.length:Int):=by rw [hrem,<-hn]; exact hf.e.in2
     have hg1:=hf.e.g1
     have hg2:std.get Pt ps (std.ib .rem .i64 (std.ib .add .i64 i 1) (std.len Pt ps)) zQ=q:=by rw [hrem]; exact hf.e.g2
     have kbt:=hf.c
     have hyes:=hf.yes
     have hno:=hf.no
     have hmu:=hf.e.mu
     clear hf h hi hlt g
     cbv
     refine Need.mk (by subst hE; exact in1) ?_
     cbv
     refine Need.mk (by subst hE; exact hnz) ?_
     cbv
     refine Need.mk (by subst hE; exact in2) ?_
     cbv
     refine CallTo.w hP hE kbt ⟨(by subst hE; exact congrArg (fun p:Pt=>p.v) hg1),(by subst hE; exact congrArg (fun p:Pt=>p.v) hg2),rfl,trivial⟩ ?_
     cbv
     refine fork.mk ?_ ?_
     ·intro g
      have hr:=w3 (hyes (by simpa using g))
      cbv
      exact w9 hr
     ·intro g
      have hst:=hno (by simpa using g)
      cbv
      refine ⟨j,[],hst,hmu,?_⟩
      cbv
      subst hE
      and_intros
      all_goals first
       | exact True.intro
       | rfl
       | exact vi hadd
       | exact vj hadd
       | (simp; done)
       | (intro h; cases h; done)
    ·intro g
     have hge:¬ i < n:=by subst hE; simpa [std] using g
     have w4:=w4 i hi hge
     have w5:=w5 i hi hge
     clear hi hge hrnd g
     cbv
     refine CallTo.w hP hE kodd ⟨(by subst hE; exact Sm.of (c:=cP) tk9),rfl,trivial⟩ ?_
     cbv
     refine fork.mk ?_ ?_
     ·intro g
      have hr:=w4 (by simpa using g)
      cbv
      exact w9 hr
     ·intro g
      have hr:=w5 (by simpa using g)
      cbv
      exact w9 hr
theorem inside_q {k:Nat} {ps:List Pt} (hp:∀ p ∈ ps,IsP k p p.q) (hl:ps.length<=9223372036854775807) (hk:40960*k+40960<=134217728) (hk1:1<=k) {z:Pt} (hz:IsP k z z.q):Con Tryz.prog 30 [.ro cP ps,.v z.v] (.v (.tuple #[.int .i64 (insS ps z),.int .i64 (insE ps z)])):=
 inside_z hp hl hk hk1 (Nat.le_refl k) (by omega) hz
/-- Parity's answer. -/
def parB (ps:List Pt) (z:Pt):Bool:=if canL ps=true then if canL [z]=true then if 1000 < (ps.length:Int) then false else oddQ (ps.map Pt.q) z.q else false else false
def parI (ps:List Pt) (z:Pt):Int:=if canL ps=true then if canL [z]=true then if 1000 < (ps.length:Int) then 4 else 0 else 1 else 1
theorem parity_q {k:Nat} {ps:List Pt} (hp:∀ p ∈ ps,IsP k p p.q) (hl:ps.length<=4096) (hk:16*k+16<=134217728) {z:Pt} (hz:IsP k z z.q):Con Tryz.prog 34 [.ro cP ps,.v z.v] (.v (.tuple #[.bool (parB ps z),.int .i64 (parI ps z)])):=by
 have kcan:=canonL_q hp (show k<=134217728 by omega) (show ps.length<=140737488355328 by omega)
 have kcan2:=canonL_q (k:=k) (ps:=[z]) (fun p h=>by rw [List.mem_singleton.1 h]; exact hz) (show k<=134217728 by omega) (show 1<=140737488355328 by omega)
 have kodd:=odd_q hp hl hk hz
 obtain ⟨n,hn⟩:∃ n:Int,n=ps.length:=⟨_,rfl⟩
 have hln:std.len Pt ps=n:=by rw [s_len,hn]
 have tk9:std.tk Pt ps (std.len Pt ps)=ps:=by rw [s_tk,s_len]; exact List.take_of_length_le (by omega)
 obtain ⟨b0,eb⟩:∃ r:Bool,r=parB ps z:=⟨_,rfl⟩
 obtain ⟨r0,er⟩:∃ r:Int,r=parI ps z:=⟨_,rfl⟩
 rw [<-eb,<-er]
 unfold parB at eb
 unfold parI at er
 rw [<-hn] at eb er
 obtain ⟨c,hc⟩:∃ c,c=canL ps:=⟨_,rfl⟩
 obtain ⟨d,hd⟩:∃ c,c=canL [z]:=⟨_,rfl⟩
 obtain ⟨o,ho⟩:∃ c,c=oddQ (ps.map Pt.q) z.q:=⟨_,rfl⟩
 rw [<-hc] at kcan eb er
 rw [<-hd] at kcan2 eb er
 rw [<-ho] at kodd eb
 clear hc hd ho hp hl hk hz
 have w1:¬ c=true->false=b0/\1=r0:=fun h=>⟨by rw [eb,if_neg h],by rw [er,if_neg h]⟩
 have w2:c=true->¬ d=true->false=b0/\1=r0:=fun h h'=>⟨by rw [eb,if_pos h,if_neg h'],by rw [er,if_pos h,if_neg h']⟩
 have w3:c=true->d=true->1000 < n->false=b0/\4=r0:=fun h h' h2=>⟨by rw [eb,if_pos h,if_pos h',if_pos h2],by rw [er,if_pos h,if_pos h',if_pos h2]⟩
 have w4:c=true->d=true->¬ 1000 < n->o=b0/\0=r0:=fun h h' h2=>⟨by rw [eb,if_pos h,if_pos h',if_neg h2],by rw [er,if_pos h,if_pos h',if_neg h2]⟩
 have w5:∀ {b b':Bool} {i i':Int},b=b'/\i=i'->Value.tuple #[.bool b,.int .i64 i]=Value.tuple #[.bool b',.int .i64 i']:=fun h=>by rw [h.1,h.2]
 clear eb er
 refine Con.of ttOk mixed Tryz.func34 {} .nil 0 (by kernel_rfl) (fun P' E hP hE=>?_)
 cbv
 refine CallTo.w hP hE kcan ⟨(by subst hE; exact Sm.of (c:=cP) tk9),trivial⟩ ?_
 cbv
 refine fork.mk ?_ ?_
 ·intro g
  have c1:¬ c=true:=by subst hE; simpa [std] using g
  have hr:=w1 c1
  cbv
  exact w5 hr
 ·intro g
  have c1:c=true:=by subst hE; simpa [std] using g
  clear g
  cbv
  refine CallTo.w hP hE kcan2 ⟨⟨cP_ok,rfl,rfl,Nat.le_refl _⟩,trivial⟩ ?_
  cbv
  refine fork.mk ?_ ?_
  ·intro g
   have c2:¬ d=true:=by subst hE; simpa [std] using g
   have hr:=w2 c1 c2
   cbv
   exact w5 hr
  ·intro g
   have c2:d=true:=by subst hE; simpa [std] using g
   clear g
   cbv
   refine fork.mk ?_ ?_
   ·intro g
    have c3:1000 < n:=by subst hE; rw [<-hln]; simpa [std] using g
    have hr:=w3 c1 c2 c3
    cbv
    exact w5 hr
   ·intro g
    have c3:¬ 1000 < n:=by subst hE; rw [<-hln]; simpa [std] using g
    have hr:=w4 c1 c2 c3
    clear g
    cbv
    refine CallTo.w hP hE kodd ⟨(by subst hE; exact Sm.of (c:=cP) tk9),rfl,trivial⟩ ?_
    cbv
    exact w5 hr
structure InsR (ps:List Pt) (z:Pt) (n i j r:Int) (p q:Pt) (b:Bool):Prop where
 e:EdgF ps n i j r p q
 kn:Con Tryz.prog 177 [.ro cP ps,.v (.int .i64 i)] (.v q.v)
 c:Con Tryz.prog 277 [.v p.v,.v q.v,.v z.v] (.v (.bool b))
 yes:b=true->onE (ps.map Pt.q) z.q=true
 no:¬ b=true->InsI ps z n j
theorem insR_ex {k:Nat} {ps:List Pt} (hp:∀ p ∈ ps,IsP k p p.q) (hl:ps.length<=4096) (hk:16*k+16<=134217728) {z:Pt} (hz:IsP k z z.q) {n i:Int} (hn:n=(ps.length:Int)) (h:InsI ps z n i) (hi:i < n):∃ j r p q b,InsR ps z n i j r p q b:=by
 obtain ⟨j,r,p,q,he⟩:=edgF_ex hn hl h.h0 hi
 have kb:=zbtw_q (hp p he.m1) (hp q he.m2) hz (by omega)
 refine ⟨j,r,p,q,_,he,next_q hn he,kb,fun c=>?_,fun c=>⟨he.j0,he.j1,?_⟩⟩
 ·unfold onE
  rw [List.any_eq_true]
  refine ⟨⟨p.q,q.q⟩,?_,c⟩
  have hm:(⟨p.q,q.q⟩:Sq) ∈ (edgesQ (ps.map Pt.q)).take j.toNat:=by rw [he.st]; simp
  exact List.mem_of_mem_take hm
 ·rw [he.st,List.any_append,h.no,<-Bool.not_eq_true]
  simp
  simpa using c
theorem on_q {k:Nat} {ps:List Pt} (hp:∀ p ∈ ps,IsP k p p.q) (hl:ps.length<=4096) (hk:16*k+16<=134217728) {z:Pt} (hz:IsP k z z.q):Con Tryz.prog 205 [.ro cP ps,.v z.v] (.v (.bool (onE (ps.map Pt.q) z.q))):=by
 obtain ⟨r0,e0⟩:∃ r,r=onE (ps.map Pt.q) z.q:=⟨_,rfl⟩
 rw [<-e0]
 obtain ⟨n,hn⟩:∃ n:Int,n=ps.length:=⟨_,rfl⟩
 have hln:std.len Pt ps=n:=by rw [s_len,hn]
 obtain ⟨i0,hi0⟩:∃ i:Int,i=0:=⟨_,rfl⟩
 have tk9:std.tk Pt ps (std.len Pt ps)=ps:=by rw [s_tk,s_len]; exact List.take_of_length_le (by omega)
 have hp0:InsI ps z n i0:=⟨by omega,by omega,by rw [hi0]; rfl⟩
 have hrnd:∀ i,InsI ps z n i->i < n->∃ j r p q b,InsR ps z n i j r p q b:=fun i h h'=>insR_ex hp hl hk hz hn h h'
 have hyes9:onE (ps.map Pt.q) z.q=true->true=r0:=fun h=>by rw [e0,h]
 have hfin:∀ i,InsI ps z n i->¬ i < n->false=r0:=fun i h h'=>by
  have h9:=h.no
  rw [edges_all (by rw [List.length_map]; have:=h.h1; omega)] at h9
  rw [e0]; unfold onE; rw [h9]
 clear e0 hp hl hk hz
 refine Con.of ttOk mixed Tryz.func205 { ord:=[(4,[0,1,2,3,4,5,7,6,8])] } .nil 0 (by kernel_rfl) (fun P' E hP hE=>?_)
 cbv
 refine LoopTo.by (ι:=Int) (fun x=>[(5,.v (.int .i64 x))]) (fun x=>[]) (fun x=>InsI ps z n x) (fun x=>(n - x).toNat) i0 [] hp0 ?_ ?_
 ·cbv
  subst hE
  and_intros
  all_goals first
   | exact True.intro
   | rfl
   | exact vi hi0.symm
   | exact vj hi0.symm
   | (intro h; cases h; done)
   | (simp; done)
 ·intro i hi
  have hi:InsI ps z n i:=hi
  clear hp0
  cbv
  refine fork.mk ?_ ?_
  ·intro g
   have hlt:i < n:=by subst hE; rw [<-hln]; simpa [std] using g
   refine Exists.elim (hrnd i hi hlt) ?_
   intro j h
   refine Exists.elim h ?_
   intro r h
   refine Exists.elim h ?_
   intro p h
   refine Exists.elim h ?_
   intro q h
   refine Exists.elim h ?_
   intro b hf
   have hn:n=(ps.length:Int):=hn
   have in1:0<=i/\i < (ps.length:Int):=by rw [<-hn]; exact hf.e.in1
   have hadd:=hf.e.add
   have hg1:=hf.e.g1
   have kn:=hf.kn
   have kbt:=hf.c
   have hyes:=hf.yes
   have hno:=hf.no
   have hmu:=hf.e.mu
   clear hf h hi hlt g
   cbv
   refine Need.mk (by subst hE; exact in1) ?_
   cbv
   refine CallTo.w hP hE kn ⟨(by subst hE; exact Sm.of (c:=cP) tk9),rfl,trivial⟩ ?_
   cbv
   refine CallTo.w hP hE kbt ⟨(by subst hE; exact congrArg (fun p:Pt=>p.v) hg1),rfl,rfl,trivial⟩ ?_
   cbv
   refine fork.mk ?_ ?_
   ·intro g
    have hr:=hyes9 (hyes (by simpa using g))
    cbv
    exact congrArg Value.bool hr
   ·intro g
    have hst:=hno (by simpa using g)
    cbv
    refine ⟨j,[],hst,hmu,?_⟩
    cbv
    subst hE
    and_intros
    all_goals first
     | exact True.intro
     | rfl
     | exact vi hadd
     | exact vj hadd
     | (intro h; cases h; done)
     | (simp; done)
  ·intro g
   have hge:¬ i < n:=by subst hE; rw [<-hln]; simpa [std] using g
   have hr:=hfin i hi hge
   cbv
   exact congrArg Value.bool hr
structure OddR (ps:List Pt) (z:Pt) (P:Pq) (n i:Int) (b:Bool) (j r:Int) (p q:Pt) (ma mb o1 o2:Int):Prop where
 e:EdgF ps n i j r p q
 kn:Con Tryz.prog 177 [.ro cP ps,.v (.int .i64 i)] (.v q.v)
 ca:Con Tryz.prog 199 [.v p.y.v,.v z.y.v] (.v (.int .i64 ma))
 cb:Con Tryz.prog 199 [.v q.y.v,.v z.y.v] (.v (.int .i64 mb))
 or1:Con Tryz.prog 197 [.v p.v,.v q.v,.v z.v] (.v (.int .i64 o1))
 or2:Con Tryz.prog 197 [.v q.v,.v p.v,.v z.v] (.v (.int .i64 o2))
 up:0 < ma->0 < o2->¬ 0 < mb->OddI ps P n j (!b)
 upn:0 < ma->(¬ 0 < o2\/0 < mb)->OddI ps P n j b
 dn:¬ 0 < ma->0 < mb->0 < o1->OddI ps P n j (!b)
 dnn:¬ 0 < ma->(¬ 0 < mb\/¬ 0 < o1)->OddI ps P n j b
theorem oddR_ex {k:Nat} {ps:List Pt} (hp:∀ p ∈ ps,IsP k p p.q) (hl:ps.length<=4096) (hk:16*k+16<=134217728) {z:Pt} {P:Pq} (hz:IsP k z P) {n i:Int} {b:Bool} (hn:n=(ps.length:Int)) (h:OddI ps P n i b) (hi:i < n):∃ j r p q ma mb o1 o2,OddR ps z P n i b j r p q ma mb o1 o2:=by
 obtain ⟨j,r,p,q,he⟩:=edgF_ex hn hl h.h0 hi
 obtain ⟨ma,ea,ka⟩:=xcmp_p (hp p he.m1).y hz.y (by omega)
 obtain ⟨mb,eb,kb⟩:=xcmp_p (hp q he.m2).y hz.y (by omega)
 obtain ⟨o1,e1,k1⟩:=yor_p (hp p he.m1) (hp q he.m2) hz (by omega)
 obtain ⟨o2,e2,k2⟩:=yor_p (hp q he.m2) (hp p he.m1) hz (by omega)
 have hst:OddI ps P n j (if oddE P ⟨p.q,q.q⟩=true then !b else b):=⟨he.j0,he.j1,by rw [he.st,parE_snoc,h.eq]⟩
 have ua:upQ p.q P=decide (0 < ma):=by unfold upQ; rw [ea]
 have ub:upQ q.q P=decide (0 < mb):=by unfold upQ; rw [eb]
 have hodd:oddE P ⟨p.q,q.q⟩=if 0 < ma then (!decide (0 < mb) && (decide (0 < ma) && decide (0 < o2))) else (!decide (0 < ma) && (decide (0 < mb) && decide (0 < o1))):=by
  unfold oddE
  simp only
  rw [ua,ub,e1,e2]
  by_cases c:0 < cmpQ p.q.y P.y<;>simp [c,ea]
 refine ⟨j,r,p,q,ma,mb,o1,o2,he,next_q hn he,ka,kb,k1,k2,fun c1 c2 c3=>?_,fun c1 c2=>?_,fun c1 c2 c3=>?_,fun c1 c2=>?_⟩
 ·rw [hodd,if_pos c1,decide_eq_true c1,decide_eq_true c2,decide_eq_false c3] at hst; exact hst
 ·rw [hodd,if_pos c1] at hst
  rcases c2 with c2 | c2
  ·simpa [c2] using hst
  ·simpa [c2] using hst
 ·rw [hodd,if_neg c1,decide_eq_false c1,decide_eq_true c2,decide_eq_true c3] at hst; exact hst
 ·rw [hodd,if_neg c1] at hst
  rcases c2 with c2 | c2
  ·simpa [c2] using hst
  ·simpa [c2] using hst
theorem yodd_q {k:Nat} {ps:List Pt} (hp:∀ p ∈ ps,IsP k p p.q) (hl:ps.length<=4096) (hk:16*k+16<=134217728) {z:Pt} {P:Pq} (hz:IsP k z P):Con Tryz.prog 119 [.ro cP ps,.v z.v] (.v (.bool (oddQ (ps.map Pt.q) P))):=by
 obtain ⟨r0,e0⟩:∃ r,r=oddQ (ps.map Pt.q) P:=⟨_,rfl⟩
 rw [<-e0]
 obtain ⟨n,hn⟩:∃ n:Int,n=ps.length:=⟨_,rfl⟩
 have hln:std.len Pt ps=n:=by rw [s_len,hn]
 obtain ⟨i0,hi0⟩:∃ i:Int,i=0:=⟨_,rfl⟩
 obtain ⟨b0,hb0⟩:∃ b:Bool,b=false:=⟨_,rfl⟩
 have tk9:std.tk Pt ps (std.len Pt ps)=ps:=by rw [s_tk,s_len]; exact List.take_of_length_le (by omega)
 have hp0:OddI ps P n i0 b0:=⟨by omega,by omega,by rw [hb0,hi0]; rfl⟩
 have hrnd:∀ i b,OddI ps P n i b->i < n->∃ j r p q ma mb o1 o2,OddR ps z P n i b j r p q ma mb o1 o2:=fun i b h h'=>oddR_ex hp hl hk hz hn h h'
 have hfin:∀ i b,OddI ps P n i b->¬ i < n->b=r0:=fun i b h h'=>by
  have h1:=h.h1
  rw [h.eq,e0,edges_all (by rw [List.length_map]; omega)]; rfl
 clear e0 hp hl hk hz
 refine Con.of ttOk mixed Tryz.func119 { ord:=[(5,(.op 0 (.op 1 (.op 2 (.op 3 (.op 4 (.op 5 (.br 6 (.br 7 (.op 8 (.op 9 (.op 10 .nil))) (.br 8 (.op 7 (.op 9 (.op 10 .nil))) .stop)) (.br 7 (.br 6 (.op 8 (.op 9 (.op 10 .nil))) (.br 8 (.op 6 (.op 9 (.op 10 .nil))) .stop)) (.br 8 (.br 6 (.op 7 (.op 9 (.op 10 .nil))) (.br 7 (.op 6 (.op 9 (.op 10 .nil))) .stop)) .stop)))))))))),(6,[0,1,2,3,6,7,8,9,4,5,10,11,12,13])] } .nil 0 (by kernel_rfl) (fun P' E hP hE=>?_)
 cbv
 refine LoopTo.by (ι:=Int × Bool) (fun x=>[(5,.v (.bool x.2)),(6,.v (.int .i64 x.1))]) (fun x=>[]) (fun x=>OddI ps P n x.1 x.2) (fun x=>(n - x.1).toNat) (i0,b0) [] hp0 ?_ ?_
 ·cbv
  subst hE
  and_intros
  all_goals first
   | exact True.intro
   | rfl
   | exact vi hi0.symm
   | exact vj hi0.symm
   | exact congrArg (fun x=>AV.v (Value.bool x)) hb0.symm
   | exact congrArg (fun x=>Value.bool x) hb0.symm
   | (intro h; cases h; done)
   | (simp [hb0]; done)
 ·rintro ⟨i,b⟩ hi
  have hi:OddI ps P n i b:=hi
  clear hp0
  cbv
  refine fork.mk ?_ ?_
  ·intro g
   have hlt:i < n:=by subst hE; rw [<-hln]; simpa [std] using g
   refine Exists.elim (hrnd i b hi hlt) ?_
   intro j h
   refine Exists.elim h ?_
   intro r h
   refine Exists.elim h ?_
   intro p h
   refine Exists.elim h ?_
   intro q h
   refine Exists.elim h ?_
   intro ma h
   refine Exists.elim h ?_
   intro mb h
   refine Exists.elim h ?_
   intro o1 h
   refine Exists.elim h ?_
   intro o2 hf
   have hn:n=(ps.length:Int):=hn
   have in1:0<=i/\i < (ps.length:Int):=by rw [<-hn]; exact hf.e.in1
   have hadd:=hf.e.add
   have hg1:=hf.e.g1
   have kn:=hf.kn
   have ka:=hf.ca
   have kb:=hf.cb
   have k1:=hf.or1
   have k2:=hf.or2
   have hup:=hf.up
   have hupn:=hf.upn
   have hdn:=hf.dn
   have hdnn:=hf.dnn
   have hmu:=hf.e.mu
   clear hf h hi hlt g
   cbv
   refine DrawTo.byU [(7,.p 3 0),(8,.p 4 0)] [.cells p.av 33,.cells q.av 33] ?_ ?_
   ·cbv
    repeat' first
     | exact True.intro
     | (refine Need.mk (by subst hE; exact in1) ?_; cbv)
     | (refine Both.mk ?_ ?_<;>cbv)
     | (refine CallTo.w hP hE kn ⟨(by subst hE; exact Sm.of (c:=cP) tk9),rfl,trivial⟩ ?_; cbv)
     | (subst hE; and_intros<;>first
       | exact True.intro
       | rfl
       | (intro h; cases h; done)
       | (intro h; rfl)
       | exact congrArg (fun p:Pt=>AV.v (Value.bool p.x.neg)) hg1
       | exact congrArg (fun p:Pt=>AV.v (Value.string p.x.num)) hg1
       | exact congrArg (fun p:Pt=>AV.v (Value.string p.x.den)) hg1
       | exact congrArg (fun p:Pt=>AV.v (Value.bool p.y.neg)) hg1
       | exact congrArg (fun p:Pt=>AV.v (Value.string p.y.num)) hg1
       | exact congrArg (fun p:Pt=>AV.v (Value.string p.y.den)) hg1)
   ·cbv
    refine CallTo.w hP hE ka ⟨rfl,rfl,trivial⟩ ?_
    cbv
    refine CallTo.w hP hE kb ⟨rfl,rfl,trivial⟩ ?_
    cbv
    refine fork.mk ?_ ?_
    ·intro g
     have hst:OddI ps P n j b:=by
      subst hE
      have g:(decide (ma > 0) == decide (mb > 0))=true:=g
      by_cases c:0 < ma
      ·refine hupn c (Or.inr ?_)
       simp [c] at g; exact g
      ·refine hdnn c (Or.inl ?_)
       simp [c] at g; omega
     cbv
     refine ⟨(j,b),[],hst,hmu,?_⟩
     cbv
     subst hE
     and_intros
     all_goals first
      | exact True.intro
      | rfl
      | exact vi hadd
      | exact vj hadd
      | (intro h; cases h; done)
      | (simp; done)
    ·intro g
     have hx:(decide (ma > 0) == decide (mb > 0))=false:=by subst hE; exact g
     clear g
     cbv
     refine fork.mk ?_ ?_
     ·intro g
      have c2:0 < mb:=by subst hE; simpa [std] using g
      have c1:¬ 0 < ma:=fun c=>by simp [c,c2] at hx
      cbv
      refine CallTo.w hP hE k1 ⟨rfl,rfl,rfl,trivial⟩ ?_
      cbv
      refine fork.mk ?_ ?_
      ·intro g
       have hst:=hdn c1 c2 (by subst hE; simpa [std] using g)
       cbv
       refine ⟨(j,!b),[],hst,hmu,?_⟩
       cbv
       subst hE
       and_intros
       all_goals first
        | exact True.intro
        | rfl
        | exact vi hadd
        | exact vj hadd
        | (intro h; cases h; done)
        | (simp; done)
      ·intro g
       have hst:=hdnn c1 (Or.inr (by subst hE; simpa [std] using g))
       cbv
       refine ⟨(j,b),[],hst,hmu,?_⟩
       cbv
       subst hE
       and_intros
       all_goals first
        | exact True.intro
        | rfl
        | exact vi hadd
        | exact vj hadd
        | (intro h; cases h; done)
        | (simp; done)
     ·intro g
      have c2:¬ 0 < mb:=by subst hE; simpa [std] using g
      have c1:0 < ma:=Classical.byContradiction fun c=>by simp [c,c2] at hx
      cbv
      refine CallTo.w hP hE k2 ⟨rfl,rfl,rfl,trivial⟩ ?_
      cbv
      refine fork.mk ?_ ?_
      ·intro g
       have hst:=hup c1 (by subst hE; simpa [std] using g) c2
       cbv
       refine ⟨(j,!b),[],hst,hmu,?_⟩
       cbv
       subst hE
       and_intros
       all_goals first
        | exact True.intro
        | rfl
        | exact vi hadd
        | exact vj hadd
        | (intro h; cases h; done)
        | (simp; done)
      ·intro g
       have hst:=hupn c1 (Or.inl (by subst hE; simpa [std] using g))
       cbv
       refine ⟨(j,b),[],hst,hmu,?_⟩
       cbv
       subst hE
       and_intros
       all_goals first
        | exact True.intro
        | rfl
        | exact vi hadd
        | exact vj hadd
        | (intro h; cases h; done)
        | (simp; done)
  ·intro g
   have hge:¬ i < n:=by subst hE; rw [<-hln]; simpa [std] using g
   have hx:=hfin i b hi hge
   clear hi hge hfin hrnd g
   subst hx
   cbv
def bigC (p:Pt):Bool:=decide (24 < p.x.num.size) || decide (24 < p.x.den.size) || decide (24 < p.y.num.size) || decide (24 < p.y.den.size)
def bigG (l:List Pt):Bool:=decide ((14 < l.length/\l.length<=64)\/70 < l.length) || l.any bigC
theorem bigC_no {p:Pt} (h:bigC p=false):IsP 24 p p.q:=by
 simp only [bigC,Bool.or_eq_false_iff,decide_eq_false_iff_not,Nat.not_lt] at h
 exact ⟨Is.of _ h.1.1.1 h.1.1.2 (by decide),Is.of _ h.1.2 h.2 (by decide)⟩
theorem bigC_is {l:List Pt} (h:bigG l=false):∀ p ∈ l,IsP 24 p p.q:=by
 intro p hp
 unfold bigG at h
 rw [Bool.or_eq_false_iff] at h
 have h2:=h.2
 rw [List.any_eq_false] at h2
 exact bigC_no (by simpa using h2 p hp)
theorem bigC_one {p:Pt}:bigG [p]=bigC p:=by
 unfold bigG
 simp
structure GrtI (l:List Pt) (n i:Int):Prop where
 h0:0<=i
 h1:i<=n
 no:(l.take i.toNat).any bigC=false
structure GrtF (l:List Pt) (r:Bool) (n i j:Int) (p:Pt):Prop where
 in1:0<=i/\i < (l.length:Int)
 add:std.ib .add .i64 i 1=j
 g1:std.get Pt l i zQ=p
 y1:(24:Int) < p.x.num.size->r=true
 y2:(24:Int) < p.x.den.size->r=true
 y3:(24:Int) < p.y.num.size->r=true
 y4:(24:Int) < p.y.den.size->r=true
 no:¬ (24:Int) < p.x.num.size->¬ (24:Int) < p.x.den.size->¬ (24:Int) < p.y.num.size->¬ (24:Int) < p.y.den.size->GrtI l n j
 mu:(n - j).toNat < (n - i).toNat
theorem grtF_ex {l:List Pt} {r:Bool} {n i:Int} (hn:n=(l.length:Int)) (hl:l.length<=140737488355328) (hr:r=l.any bigC) (h:GrtI l n i) (hi:i < n):∃ j p,GrtF l r n i j p:=by
 obtain ⟨j,p,hp⟩:=lstF_ex hn hl h.h0 hi
 have hy:bigC p=true->r=true:=fun c=>by rw [hr,List.any_eq_true]; exact ⟨p,hp.m1,c⟩
 refine ⟨j,p,hp.in1,hp.add,hp.g1,fun c=>hy ?_,fun c=>hy ?_,fun c=>hy ?_,fun c=>hy ?_,fun c1 c2 c3 c4=>⟨hp.j0,hp.j1,?_⟩,hp.mu⟩
 ·unfold bigC; rw [decide_eq_true (show 24 < p.x.num.size by omega)]; simp
 ·unfold bigC; rw [decide_eq_true (show 24 < p.x.den.size by omega)]; simp
 ·unfold bigC; rw [decide_eq_true (show 24 < p.y.num.size by omega)]; simp
 ·unfold bigC; rw [decide_eq_true (show 24 < p.y.den.size by omega)]; simp
 ·rw [hp.tk,List.any_append,h.no]
  simp only [Bool.false_or,List.any_cons,List.any_nil,Bool.or_false]
  unfold bigC
  rw [decide_eq_false (show ¬ 24 < p.x.num.size by omega),decide_eq_false (show ¬ 24 < p.x.den.size by omega),decide_eq_false (show ¬ 24 < p.y.num.size by omega),decide_eq_false (show ¬ 24 < p.y.den.size by omega)]; rfl
theorem great24_con (l:List Pt) (hl:l.length<=9223372036854775807):Con Tryz.prog 15 [.ro cP l] (.v (.bool (bigG l))):=by
 obtain ⟨r,hr⟩:∃ r,r=bigG l:=⟨_,rfl⟩
 rw [<-hr]
 obtain ⟨i0,hi0⟩:∃ i:Int,i=0:=⟨_,rfl⟩
 obtain ⟨n,hn⟩:∃ n:Int,n=l.length:=⟨_,rfl⟩
 have hln:std.len Pt l=n:=by rw [s_len,hn]
 have w1:14 < n->n<=64->r=true:=fun h1 h2=>by rw [hr]; unfold bigG; rw [decide_eq_true (by omega)]; rfl
 have w2:70 < n->r=true:=fun h1=>by rw [hr]; unfold bigG; rw [decide_eq_true (by omega)]; rfl
 have w3:¬ (14 < n/\n<=64)->¬ 70 < n->r=l.any bigC:=fun h1 h2=>by rw [hr]; unfold bigG; rw [decide_eq_false (by omega)]; rfl
 have hp0:GrtI l n i0:=⟨by omega,by omega,by rw [hi0]; rfl⟩
 have hrnd:¬ (14 < n/\n<=64)->¬ 70 < n->∀ i,GrtI l n i->i < n->∃ j p,GrtF l r n i j p:=fun h1 h2 i h h'=>grtF_ex hn (by omega) (w3 h1 h2) h h'
 have hfin:¬ (14 < n/\n<=64)->¬ 70 < n->∀ i,GrtI l n i->¬ i < n->r=false:=fun h1 h2 i h h'=>by
  have h9:=h.no
  have:=h.h1
  rw [List.take_of_length_le (by omega)] at h9
  rw [w3 h1 h2,h9]
 clear hr hl w3
 refine Con.of ttOk mixed Tryz.func15 {} .nil 0 (by kernel_rfl) (fun P' E hP hE=>?_)
 cbv
 refine fork.mk ?_ ?_
 ·intro g
  have c1:14 < n:=by subst hE; rw [<-hln]; simpa [std] using g
  clear g
  cbv
  refine fork.mk ?_ ?_
  ·intro g
   have c2:n<=64:=by subst hE; rw [<-hln]; simpa [std] using g
   have hx:=w1 c1 c2
   cbv
   exact congrArg Value.bool hx.symm
  ·intro g
   have c2:¬ n<=64:=by subst hE; rw [<-hln]; simpa [std] using g
   clear g
   cbv
   refine fork.mk ?_ ?_
   ·intro g
    have c3:70 < n:=by subst hE; rw [<-hln]; simpa [std] using g
    have hx:=w2 c3
    cbv
    exact congrArg Value.bool hx.symm
   ·intro g
    have c3:¬ 70 < n:=by subst hE; rw [<-hln]; simpa [std] using g
    have c4:¬ (14 < n/\n<=64):=fun h=>c2 h.2
    have hrnd:=hrnd c4 c3
    have hfin:=hfin c4 c3
    clear g w1 w2 c1 c2 c3 c4
    cbv
    refine LoopTo.by (ι:=Int) (fun x=>[(3,.v (.int .i64 x))]) (fun x=>[]) (fun x=>GrtI l n x) (fun x=>(n - x).toNat) i0 [] hp0 ?_ ?_
    ·cbv
     subst hE
     and_intros
     all_goals first
      | exact True.intro
      | rfl
      | exact vi hi0.symm
      | exact vj hi0.symm
      | (simp; done)
    ·intro i hi
     have hi:GrtI l n i:=hi
     clear hp0
     cbv
     refine fork.mk ?_ ?_
     ·intro g
      have hlt:i < n:=by subst hE; rw [<-hln]; simpa [std] using g
      refine Exists.elim (hrnd i hi hlt) ?_
      intro j h
      refine Exists.elim h ?_
      intro p hf
      have in1:=hf.in1
      have hadd:=hf.add
      have hget:=hf.g1
      have y1:=hf.y1
      have y2:=hf.y2
      have y3:=hf.y3
      have y4:=hf.y4
      have hno:=hf.no
      have hmu:=hf.mu
      clear hf h hi hlt g hrnd
      cbv
      refine Need.mk (by subst hE; exact in1) ?_
      cbv
      refine fork.mk ?_ ?_
      ·intro k1
       have c1:(24:Int) < p.x.num.size:=by
        subst hE
        have k1:decide ((std.get Pt l i _).x.num.size > (24:Int))=true:=k1
        rw [hget] at k1
        simpa using k1
       have hr:=y1 c1
       cbv
       exact congrArg Value.bool hr.symm
      ·intro k1
       have c1:¬ (24:Int) < p.x.num.size:=by
        subst hE
        have k1:decide ((std.get Pt l i _).x.num.size > (24:Int))=false:=k1
        rw [hget] at k1
        simpa using k1
       clear k1
       cbv
       refine Need.mk (by subst hE; exact in1) ?_
       cbv
       refine fork.mk ?_ ?_
       ·intro k2
        have c2:(24:Int) < p.x.den.size:=by
         subst hE
         have k2:decide ((std.get Pt l i _).x.den.size > (24:Int))=true:=k2
         rw [hget] at k2
         simpa using k2
        have hr:=y2 c2
        cbv
        exact congrArg Value.bool hr.symm
       ·intro k2
        have c2:¬ (24:Int) < p.x.den.size:=by
         subst hE
         have k2:decide ((std.get Pt l i _).x.den.size > (24:Int))=false:=k2
         rw [hget] at k2
         simpa using k2
        clear k2
        cbv
        refine Need.mk (by subst hE; exact in1) ?_
        cbv
        refine fork.mk ?_ ?_
        ·intro k3
         have c3:(24:Int) < p.y.num.size:=by
          subst hE
          have k3:decide ((std.get Pt l i _).y.num.size > (24:Int))=true:=k3
          rw [hget] at k3
          simpa using k3
         have hr:=y3 c3
         cbv
         exact congrArg Value.bool hr.symm
        ·intro k3
         have c3:¬ (24:Int) < p.y.num.size:=by
          subst hE
          have k3:decide ((std.get Pt l i _).y.num.size > (24:Int))=false:=k3
          rw [hget] at k3
          simpa using k3
         clear k3
         cbv
         refine Need.mk (by subst hE; exact in1) ?_
         cbv
         refine fork.mk ?_ ?_
         ·intro k4
          have c4:(24:Int) < p.y.den.size:=by
           subst hE
           have k4:decide ((std.get Pt l i _).y.den.size > (24:Int))=true:=k4
           rw [hget] at k4
           simpa using k4
          have hr:=y4 c4
          cbv
          exact congrArg Value.bool hr.symm
         ·intro k4
          have c4:¬ (24:Int) < p.y.den.size:=by
           subst hE
           have k4:decide ((std.get Pt l i _).y.den.size > (24:Int))=false:=k4
           rw [hget] at k4
           simpa using k4
          clear k4
          have hst:=hno c1 c2 c3 c4
          cbv
          refine ⟨j,[],hst,hmu,?_⟩
          cbv
          subst hE
          and_intros
          all_goals first
           | exact True.intro
           | rfl
           | exact vi hadd
           | exact vj hadd
           | (simp; done)
     ·intro g
      have hge:¬ i < n:=by subst hE; rw [<-hln]; simpa [std] using g
      have hr:=hfin i hi hge
      clear hi hge hfin hrnd g
      cbv
      exact congrArg Value.bool hr.symm
 ·intro g
  have c1:¬ 14 < n:=by subst hE; rw [<-hln]; simpa [std] using g
  clear g
  cbv
  refine fork.mk ?_ ?_
  ·intro g
   have c3:70 < n:=by subst hE; rw [<-hln]; simpa [std] using g
   have hx:=w2 c3
   cbv
   exact congrArg Value.bool hx.symm
  ·intro g
   have c3:¬ 70 < n:=by subst hE; rw [<-hln]; simpa [std] using g
   have c4:¬ (14 < n/\n<=64):=fun h=>c1 h.1
   have hrnd:=hrnd c4 c3
   have hfin:=hfin c4 c3
   clear g w1 w2 c1 c3 c4
   cbv
   refine LoopTo.by (ι:=Int) (fun x=>[(3,.v (.int .i64 x))]) (fun x=>[]) (fun x=>GrtI l n x) (fun x=>(n - x).toNat) i0 [] hp0 ?_ ?_
   ·cbv
    subst hE
    and_intros
    all_goals first
     | exact True.intro
     | rfl
     | exact vi hi0.symm
     | exact vj hi0.symm
     | (simp; done)
   ·intro i hi
    have hi:GrtI l n i:=hi
    clear hp0
    cbv
    refine fork.mk ?_ ?_
    ·intro g
     have hlt:i < n:=by subst hE; rw [<-hln]; simpa [std] using g
     refine Exists.elim (hrnd i hi hlt) ?_
     intro j h
     refine Exists.elim h ?_
     intro p hf
     have in1:=hf.in1
     have hadd:=hf.add
     have hget:=hf.g1
     have y1:=hf.y1
     have y2:=hf.y2
     have y3:=hf.y3
     have y4:=hf.y4
     have hno:=hf.no
     have hmu:=hf.mu
     clear hf h hi hlt g hrnd
     cbv
     refine Need.mk (by subst hE; exact in1) ?_
     cbv
     refine fork.mk ?_ ?_
     ·intro k1
      have c1:(24:Int) < p.x.num.size:=by
       subst hE
       have k1:decide ((std.get Pt l i _).x.num.size > (24:Int))=true:=k1
       rw [hget] at k1
       simpa using k1
      have hr:=y1 c1
      cbv
      exact congrArg Value.bool hr.symm
     ·intro k1
      have c1:¬ (24:Int) < p.x.num.size:=by
       subst hE
       have k1:decide ((std.get Pt l i _).x.num.size > (24:Int))=false:=k1
       rw [hget] at k1
       simpa using k1
      clear k1
      cbv
      refine Need.mk (by subst hE; exact in1) ?_
      cbv
      refine fork.mk ?_ ?_
      ·intro k2
       have c2:(24:Int) < p.x.den.size:=by
        subst hE
        have k2:decide ((std.get Pt l i _).x.den.size > (24:Int))=true:=k2
        rw [hget] at k2
        simpa using k2
       have hr:=y2 c2
       cbv
       exact congrArg Value.bool hr.symm
      ·intro k2
       have c2:¬ (24:Int) < p.x.den.size:=by
        subst hE
        have k2:decide ((std.get Pt l i _).x.den.size > (24:Int))=false:=k2
        rw [hget] at k2
        simpa using k2
       clear k2
       cbv
       refine Need.mk (by subst hE; exact in1) ?_
       cbv
       refine fork.mk ?_ ?_
       ·intro k3
        have c3:(24:Int) < p.y.num.size:=by
         subst hE
         have k3:decide ((std.get Pt l i _).y.num.size > (24:Int))=true:=k3
         rw [hget] at k3
         simpa using k3
        have hr:=y3 c3
        cbv
        exact congrArg Value.bool hr.symm
       ·intro k3
        have c3:¬ (24:Int) < p.y.num.size:=by
         subst hE
         have k3:decide ((std.get Pt l i _).y.num.size > (24:Int))=false:=k3
         rw [hget] at k3
         simpa using k3
        clear k3
        cbv
        refine Need.mk (by subst hE; exact in1) ?_
        cbv
        refine fork.mk ?_ ?_
        ·intro k4
         have c4:(24:Int) < p.y.den.size:=by
          subst hE
          have k4:decide ((std.get Pt l i _).y.den.size > (24:Int))=true:=k4
          rw [hget] at k4
          simpa using k4
         have hr:=y4 c4
         cbv
         exact congrArg Value.bool hr.symm
        ·intro k4
         have c4:¬ (24:Int) < p.y.den.size:=by
          subst hE
          have k4:decide ((std.get Pt l i _).y.den.size > (24:Int))=false:=k4
          rw [hget] at k4
          simpa using k4
         clear k4
         have hst:=hno c1 c2 c3 c4
         cbv
         refine ⟨j,[],hst,hmu,?_⟩
         cbv
         subst hE
         and_intros
         all_goals first
          | exact True.intro
          | rfl
          | exact vi hadd
          | exact vj hadd
          | (simp; done)
    ·intro g
     have hge:¬ i < n:=by subst hE; rw [<-hln]; simpa [std] using g
     have hr:=hfin i hi hge
     clear hi hge hfin hrnd g
     cbv
     exact congrArg Value.bool hr.symm
theorem great1_con (p:Pt):Con Tryz.prog 24 [.v p.v] (.v (.bool (bigC p))):=by
 have kg:=great24_con [p] (show (1:Nat)<=9223372036854775807 by decide)
 rw [bigC_one] at kg
 obtain ⟨r,hr⟩:∃ r,r=bigC p:=⟨_,rfl⟩
 rw [<-hr] at kg ⊢
 clear hr
 refine Con.of ttOk mixed Tryz.func24 {} .nil 0 (by kernel_rfl) (fun P' E hP hE=>?_)
 cbv
 refine CallTo.w hP hE kg ⟨⟨cP_ok,rfl,rfl,Nat.le_refl _⟩,trivial⟩ ?_
 cbv
end Go.Proofs.YtkipmmiiackdaaaGreat.Sx
