/- Part 28 of what the statement needs: an executor of Go texts, arithmetic, and contracts of the functions that are called. -/
import Derived.Test.YtkipmmiiackdaaaGreatCi23
import Derived.Test.YtkipmmiiackdaaaGreatCi25
import Derived.Test.YtkipmmiiackdaaaGreatCi26
import Derived.Test.YtkipmmiiackdaaaGreatCi27
set_option linter.unusedSimpArgs false
set_option linter.unusedVariables false
set_option maxHeartbeats 8000000
set_option maxRecDepth 100000
namespace Go.Proofs.YtkipmmiiackdaaaGreat.Sx
open Env (std)
def bigC (p:Pt):Bool:=decide (24 < p.x.num.size) || decide (24 < p.x.den.size) || decide (24 < p.y.num.size) || decide (24 < p.y.den.size)
def bigG (l:List Pt):Bool:=decide ((14 < l.length/\l.length<=64)\/70 < l.length) || l.any bigC
theorem bigC_no {p:Pt} (h:bigC p=false):IsP 24 p p.q:=by
 simp only [bigC,Bool.or_eq_false_iff,decide_eq_false_iff_not,Nat.not_lt] at h
 exact ⟨Is.of _ h.1.1.1 h.1.1.2 (by decide),Is.of _ h.1.2 h.2 (by decide)⟩
theorem bigC_is {l:List Pt} (h:bigG l=false):∀ p ∈ l,IsP 24 p p.q:=by
 intro p hp
 unfold bigG at h
 rw [Bool.or_eq_false_iff] at h
 have h2:=h.2
 rw [List.any_eq_false] at h2
 exact bigC_no (by simpa using h2 p hp)
theorem bigC_one {p:Pt}:bigG [p]=bigC p:=by
 unfold bigG
 simp
structure GrtI (l:List Pt) (n i:Int):Prop where
 h0:0<=i
 h1:i<=n
 no:(l.take i.toNat).any bigC=false
structure GrtF (l:List Pt) (r:Bool) (n i j:Int) (p:Pt):Prop where
 in1:0<=i/\i < (l.length:Int)
 add:std.ib .add .i64 i 1=j
 g1:std.get Pt l i zQ=p
 y1:(24:Int) < p.x.num.size->r=true
 y2:(24:Int) < p.x.den.size->r=true
 y3:(24:Int) < p.y.num.size->r=true
 y4:(24:Int) < p.y.den.size->r=true
 no:¬ (24:Int) < p.x.num.size->¬ (24:Int) < p.x.den.size->¬ (24:Int) < p.y.num.size->¬ (24:Int) < p.y.den.size->GrtI l n j
 mu:(n - j).toNat < (n - i).toNat
theorem grtF_ex {l:List Pt} {r:Bool} {n i:Int} (hn:n=(l.length:Int)) (hl:l.length<=140737488355328) (hr:r=l.any bigC) (h:GrtI l n i) (hi:i < n):∃ j p,GrtF l r n i j p:=by
 obtain ⟨j,p,hp⟩:=lstF_ex hn hl h.h0 hi
 have hy:bigC p=true->r=true:=fun c=>by rw [hr,List.any_eq_true]; exact ⟨p,hp.m1,c⟩
 refine ⟨j,p,hp.in1,hp.add,hp.g1,fun c=>hy ?_,fun c=>hy ?_,fun c=>hy ?_,fun c=>hy ?_,fun c1 c2 c3 c4=>⟨hp.j0,hp.j1,?_⟩,hp.mu⟩
 ·unfold bigC; rw [decide_eq_true (show 24 < p.x.num.size by omega)]; simp
 ·unfold bigC; rw [decide_eq_true (show 24 < p.x.den.size by omega)]; simp
 ·unfold bigC; rw [decide_eq_true (show 24 < p.y.num.size by omega)]; simp
 ·unfold bigC; rw [decide_eq_true (show 24 < p.y.den.size by omega)]; simp
 ·rw [hp.tk,List.any_append,h.no]
  simp only [Bool.false_or,List.any_cons,List.any_nil,Bool.or_false]
  unfold bigC
  rw [decide_eq_false (show ¬ 24 < p.x.num.size by omega),decide_eq_false (show ¬ 24 < p.x.den.size by omega),decide_eq_false (show ¬ 24 < p.y.num.size by omega),decide_eq_false (show ¬ 24 < p.y.den.size by omega)]; rfl
theorem great24_con (l:List Pt) (hl:l.length<=9223372036854775807):Con Tryz.prog 15 [.ro cP l] (.v (.bool (bigG l))):=by
 obtain ⟨r,hr⟩:∃ r,r=bigG l:=⟨_,rfl⟩
 rw [<-hr]
 obtain ⟨i0,hi0⟩:∃ i:Int,i=0:=⟨_,rfl⟩
 obtain ⟨n,hn⟩:∃ n:Int,n=l.length:=⟨_,rfl⟩
 have hln:std.len Pt l=n:=by rw [s_len,hn]
 have w1:14 < n->n<=64->r=true:=fun h1 h2=>by rw [hr]; unfold bigG; rw [decide_eq_true (by omega)]; rfl
 have w2:70 < n->r=true:=fun h1=>by rw [hr]; unfold bigG; rw [decide_eq_true (by omega)]; rfl
 have w3:¬ (14 < n/\n<=64)->¬ 70 < n->r=l.any bigC:=fun h1 h2=>by rw [hr]; unfold bigG; rw [decide_eq_false (by omega)]; rfl
 have hp0:GrtI l n i0:=⟨by omega,by omega,by rw [hi0]; rfl⟩
 have hrnd:¬ (14 < n/\n<=64)->¬ 70 < n->∀ i,GrtI l n i->i < n->∃ j p,GrtF l r n i j p:=fun h1 h2 i h h'=>grtF_ex hn (by omega) (w3 h1 h2) h h'
 have hfin:¬ (14 < n/\n<=64)->¬ 70 < n->∀ i,GrtI l n i->¬ i < n->r=false:=fun h1 h2 i h h'=>by
  have h9:=h.no
  have:=h.h1
  rw [List.take_of_length_le (by omega)] at h9
  rw [w3 h1 h2,h9]
 clear hr hl w3
 refine Con.of ttOk mixed Tryz.func15 {} .nil 0 (by kernel_rfl) (fun P' E hP hE=>?_)
 cbv
 refine fork.mk ?_ ?_
 ·intro g
  have c1:14 < n:=by subst hE; rw [<-hln]; simpa [std] using g
  clear g
  cbv
  refine fork.mk ?_ ?_
  ·intro g
   have c2:n<=64:=by subst hE; rw [<-hln]; simpa [std] using g
   have hx:=w1 c1 c2
   cbv
   exact congrArg Value.bool hx.symm
  ·intro g
   have c2:¬ n<=64:=by subst hE; rw [<-hln]; simpa [std] using g
   clear g
   cbv
   refine fork.mk ?_ ?_
   ·intro g
    have c3:70 < n:=by subst hE; rw [<-hln]; simpa [std] using g
    have hx:=w2 c3
    cbv
    exact congrArg Value.bool hx.symm
   ·intro g
    have c3:¬ 70 < n:=by subst hE; rw [<-hln]; simpa [std] using g
    have c4:¬ (14 < n/\n<=64):=fun h=>c2 h.2
    have hrnd:=hrnd c4 c3
    have hfin:=hfin c4 c3
    clear g w1 w2 c1 c2 c3 c4
    cbv
    refine LoopTo.by (ι:=Int) (fun x=>[(3,.v (.int .i64 x))]) (fun x=>[]) (fun x=>GrtI l n x) (fun x=>(n - x).toNat) i0 [] hp0 ?_ ?_
    ·cbv
     subst hE
     and_intros
     all_goals first
      | exact True.intro
      | rfl
      | exact vi hi0.symm
      | exact vj hi0.symm
      | (simp; done)
    ·intro i hi
     have hi:GrtI l n i:=hi
     clear hp0
     cbv
     refine fork.mk ?_ ?_
     ·intro g
      have hlt:i < n:=by subst hE; rw [<-hln]; simpa [std] using g
      refine Exists.elim (hrnd i hi hlt) ?_
      intro j h
      refine Exists.elim h ?_
      intro p hf
      have in1:=hf.in1
      have hadd:=hf.add
      have hget:=hf.g1
      have y1:=hf.y1
      have y2:=hf.y2
      have y3:=hf.y3
      have y4:=hf.y4
      have hno:=hf.no
      have hmu:=hf.mu
      clear hf h hi hlt g hrnd
      cbv
      refine Need.mk (by subst hE; exact in1) ?_
      cbv
      refine fork.mk ?_ ?_
      ·intro k1
       have c1:(24:Int) < p.x.num.size:=by
        subst hE
        have k1:decide ((std.get Pt l i _).x.num.size > (24:Int))=true:=k1
        rw [hget] at k1
        simpa using k1
       have hr:=y1 c1
       cbv
       exact congrArg Value.bool hr.symm
      ·intro k1
       have c1:¬ (24:Int) < p.x.num.size:=by
        subst hE
        have k1:decide ((std.get Pt l i _).x.num.size > (24:Int))=false:=k1
        rw [hget] at k1
        simpa using k1
       clear k1
       cbv
       refine Need.mk (by subst hE; exact in1) ?_
       cbv
       refine fork.mk ?_ ?_
       ·intro k2
        have c2:(24:Int) < p.x.den.size:=by
         subst hE
         have k2:decide ((std.get Pt l i _).x.den.size > (24:Int))=true:=k2
         rw [hget] at k2
         simpa using k2
        have hr:=y2 c2
        cbv
        exact congrArg Value.bool hr.symm
       ·intro k2
        have c2:¬ (24:Int) < p.x.den.size:=by
         subst hE
         have k2:decide ((std.get Pt l i _).x.den.size > (24:Int))=false:=k2
         rw [hget] at k2
         simpa using k2
        clear k2
        cbv
        refine Need.mk (by subst hE; exact in1) ?_
        cbv
        refine fork.mk ?_ ?_
        ·intro k3
         have c3:(24:Int) < p.y.num.size:=by
          subst hE
          have k3:decide ((std.get Pt l i _).y.num.size > (24:Int))=true:=k3
          rw [hget] at k3
          simpa using k3
         have hr:=y3 c3
         cbv
         exact congrArg Value.bool hr.symm
        ·intro k3
         have c3:¬ (24:Int) < p.y.num.size:=by
          subst hE
          have k3:decide ((std.get Pt l i _).y.num.size > (24:Int))=false:=k3
          rw [hget] at k3
          simpa using k3
         clear k3
         cbv
         refine Need.mk (by subst hE; exact in1) ?_
         cbv
         refine fork.mk ?_ ?_
         ·intro k4
          have c4:(24:Int) < p.y.den.size:=by
           subst hE
           have k4:decide ((std.get Pt l i _).y.den.size > (24:Int))=true:=k4
           rw [hget] at k4
           simpa using k4
          have hr:=y4 c4
          cbv
          exact congrArg Value.bool hr.symm
         ·intro k4
          have c4:¬ (24:Int) < p.y.den.size:=by
           subst hE
           have k4:decide ((std.get Pt l i _).y.den.size > (24:Int))=false:=k4
           rw [hget] at k4
           simpa using k4
          clear k4
          have hst:=hno c1 c2 c3 c4
          cbv
          refine ⟨j,[],hst,hmu,?_⟩
          cbv
          subst hE
          and_intros
          all_goals first
           | exact True.intro
           | rfl
           | exact vi hadd
           | exact vj hadd
           | (simp; done)
     ·intro g
      have hge:¬ i < n:=by subst hE; rw [<-hln]; simpa [std] using g
      have hr:=hfin i hi hge
      clear hi hge hfin hrnd g
      cbv
      exact congrArg Value.bool hr.symm
 ·intro g
  have c1:¬ 14 < n:=by subst hE; rw [<-hln]; simpa [std] using g
  clear g
  cbv
  refine fork.mk ?_ ?_
  ·intro g
   have c3:70 < n:=by subst hE; rw [<-hln]; simpa [std] using g
   have hx:=w2 c3
   cbv
   exact congrArg Value.bool hx.symm
  ·intro g
   have c3:¬ 70 < n:=by subst hE; rw [<-hln]; simpa [std] using g
   have c4:¬ (14 < n/\n<=64):=fun h=>c1 h.1
   have hrnd:=hrnd c4 c3
   have hfin:=hfin c4 c3
   clear g w1 w2 c1 c3 c4
   cbv
   refine LoopTo.by (ι:=Int) (fun x=>[(3,.v (.int .i64 x))]) (fun x=>[]) (fun x=>GrtI l n x) (fun x=>(n - x).toNat) i0 [] hp0 ?_ ?_
   ·cbv
    subst hE
    and_intros
    all_goals first
     | exact True.intro
     | rfl
     | exact vi hi0.symm
     | exact vj hi0.symm
     | (simp; done)
   ·intro i hi
    have hi:GrtI l n i:=hi
    clear hp0
    cbv
    refine fork.mk ?_ ?_
    ·intro g
     have hlt:i < n:=by subst hE; rw [<-hln]; simpa [std] using g
     refine Exists.elim (hrnd i hi hlt) ?_
     intro j h
     refine Exists.elim h ?_
     intro p hf
     have in1:=hf.in1
     have hadd:=hf.add
     have hget:=hf.g1
     have y1:=hf.y1
     have y2:=hf.y2
     have y3:=hf.y3
     have y4:=hf.y4
     have hno:=hf.no
     have hmu:=hf.mu
     clear hf h hi hlt g hrnd
     cbv
     refine Need.mk (by subst hE; exact in1) ?_
     cbv
     refine fork.mk ?_ ?_
     ·intro k1
      have c1:(24:Int) < p.x.num.size:=by
       subst hE
       have k1:decide ((std.get Pt l i _).x.num.size > (24:Int))=true:=k1
       rw [hget] at k1
       simpa using k1
      have hr:=y1 c1
      cbv
      exact congrArg Value.bool hr.symm
     ·intro k1
      have c1:¬ (24:Int) < p.x.num.size:=by
       subst hE
       have k1:decide ((std.get Pt l i _).x.num.size > (24:Int))=false:=k1
       rw [hget] at k1
       simpa using k1
      clear k1
      cbv
      refine Need.mk (by subst hE; exact in1) ?_
      cbv
      refine fork.mk ?_ ?_
      ·intro k2
       have c2:(24:Int) < p.x.den.size:=by
        subst hE
        have k2:decide ((std.get Pt l i _).x.den.size > (24:Int))=true:=k2
        rw [hget] at k2
        simpa using k2
       have hr:=y2 c2
       cbv
       exact congrArg Value.bool hr.symm
      ·intro k2
       have c2:¬ (24:Int) < p.x.den.size:=by
        subst hE
        have k2:decide ((std.get Pt l i _).x.den.size > (24:Int))=false:=k2
        rw [hget] at k2
        simpa using k2
       clear k2
       cbv
       refine Need.mk (by subst hE; exact in1) ?_
       cbv
       refine fork.mk ?_ ?_
       ·intro k3
        have c3:(24:Int) < p.y.num.size:=by
         subst hE
         have k3:decide ((std.get Pt l i _).y.num.size > (24:Int))=true:=k3
         rw [hget] at k3
         simpa using k3
        have hr:=y3 c3
        cbv
        exact congrArg Value.bool hr.symm
       ·intro k3
        have c3:¬ (24:Int) < p.y.num.size:=by
         subst hE
         have k3:decide ((std.get Pt l i _).y.num.size > (24:Int))=false:=k3
         rw [hget] at k3
         simpa using k3
        clear k3
        cbv
        refine Need.mk (by subst hE; exact in1) ?_
        cbv
        refine fork.mk ?_ ?_
        ·intro k4
         have c4:(24:Int) < p.y.den.size:=by
          subst hE
          have k4:decide ((std.get Pt l i _).y.den.size > (24:Int))=true:=k4
          rw [hget] at k4
          simpa using k4
         have hr:=y4 c4
         cbv
         exact congrArg Value.bool hr.symm
        ·intro k4
         have c4:¬ (24:Int) < p.y.den.size:=by
          subst hE
          have k4:decide ((std.get Pt l i _).y.den.size > (24:Int))=false:=k4
          rw [hget] at k4
          simpa using k4
         clear k4
         have hst:=hno c1 c2 c3 c4
         cbv
         refine ⟨j,[],hst,hmu,?_⟩
         cbv
         subst hE
         and_intros
         all_goals first
          | exact True.intro
          | rfl
          | exact vi hadd
          | exact vj hadd
          | (simp; done)
    ·intro g
     have hge:¬ i < n:=by subst hE; rw [<-hln]; simpa [std] using g
     have hr:=hfin i hi hge
     clear hi hge hfin hrnd g
     cbv
     exact congrArg Value.bool hr.symm
theorem great1_con (p:Pt):Con Tryz.prog 24 [.v p.v] (.v (.bool (bigC p))):=by
 have kg:=great24_con [p] (show (1:Nat)<=9223372036854775807 by decide)
 rw [bigC_one] at kg
 obtain ⟨r,hr⟩:∃ r,r=bigC p:=⟨_,rfl⟩
 rw [<-hr] at kg ⊢
 clear hr
 refine Con.of ttOk mixed Tryz.func24 {} .nil 0 (by kernel_rfl) (fun P' E hP hE=>?_)
 cbv
 refine CallTo.w hP hE kg ⟨⟨cP_ok,rfl,rfl,Nat.le_refl _⟩,trivial⟩ ?_
 cbv
def edgeP (ps:List Pt) (i:Nat):Sg:=⟨ps.getD i zQ,ps.getD ((i+1) % ps.length) zQ⟩
def edgesP (ps:List Pt):List Sg:=(List.range ps.length).map (edgeP ps)
theorem edgesP_len (ps:List Pt):(edgesP ps).length=ps.length:=by unfold edgesP; simp
theorem edgesP_take {ps:List Pt} {i:Nat} (h:i < ps.length):(edgesP ps).take (i+1)=(edgesP ps).take i++[edgeP ps i]:=by
 rw [List.take_add_one]
 congr 1
 unfold edgesP
 rw [List.getElem?_map,List.getElem?_eq_getElem (by simpa using h)]
 simp
structure EdsI (ps:List Pt) (n i L:Int) (out:List Sg):Prop where
 h0:0<=i
 h1:i<=n
 eq:out=(edgesP ps).take i.toNat
 len:L=out.length
structure EdsF (ps:List Pt) (n i L:Int) (out:List Sg) (j r:Int) (p q:Pt) (L':Int) (out':List Sg):Prop where
 e:EdgF ps n i j r p q
 app:std.app Sg (std.tk Sg out L) [⟨p,q⟩]=out'
 fit:std.fits (std.ad L (std.len Sg [⟨p,q⟩])) 160
 len:std.ad L (std.len Sg [⟨p,q⟩])=L'
 inv:EdsI ps n j L' out'
theorem edsF_ex {ps:List Pt} (hl:ps.length<=4096) {n i L:Int} {out:List Sg} (hn:n=(ps.length:Int)) (h:EdsI ps n i L out) (hi:i < n):∃ j r p q L' out',EdsF ps n i L out j r p q L' out':=by
 obtain ⟨j,r,p,q,he⟩:=edgF_ex hn hl h.h0 hi
 have h0:=h.h0
 have hpos:i.toNat < ps.length:=by omega
 have hlen:=h.len
 have hol:out.length<=4096:=by rw [h.eq,List.length_take]; omega
 have hj:j.toNat=i.toNat+1:=by
  have h1:=he.add
  rw [s_add,w64 (by omega) (by omega)] at h1
  omega
 have hr:r.toNat=(i.toNat+1) % ps.length:=by
  have h1:=he.rem
  have h2:=he.add
  rw [s_add,w64 (by omega) (by omega)] at h2
  rw [s_rem,Int.tmod_eq_emod_of_nonneg he.j0,hn,<-h2] at h1
  have e:((i+1) % (ps.length:Int))=(((i.toNat+1) % ps.length:Nat):Int):=by rw [Int.natCast_emod]; congr 1; omega
  rw [e] at h1
  omega
 have hp:p=ps.getD i.toNat zQ:=he.g1.symm
 have hq:q=ps.getD ((i.toNat+1) % ps.length) zQ:=by rw [<-hr]; exact he.g2.symm
 refine ⟨j,r,p,q,L+1,out++[⟨p,q⟩],he,by rw [s_app,s_tk,List.take_of_length_le (by omega)],?_,rfl,he.j0,he.j1,?_,by rw [hlen]; simp⟩
 ·rw [s_fits]
  show 0<=L+1/\L+1<=_/\(L+1)*160<=_
  omega
 ·rw [hj,edgesP_take hpos,h.eq,hp,hq]; rfl
theorem edges_q {ps:List Pt} (hl:ps.length<=4096):Con Tryz.prog 36 [.ro cP ps] (.own 52 cS (edgesP ps)):=by
 obtain ⟨rs,hrs⟩:∃ r,r=edgesP ps:=⟨_,rfl⟩
 rw [<-hrs]
 obtain ⟨n,hn⟩:∃ n:Int,n=ps.length:=⟨_,rfl⟩
 obtain ⟨i0,hi0⟩:∃ i:Int,i=0:=⟨_,rfl⟩
 obtain ⟨l0,hl0⟩:∃ i:Int,i=0:=⟨_,rfl⟩
 obtain ⟨o0,ho0⟩:∃ l:List Sg,l=[]:=⟨_,rfl⟩
 have hp0:EdsI ps n i0 l0 o0:=⟨by omega,by omega,by rw [ho0,hi0]; rfl,by rw [hl0,ho0]; rfl⟩
 have hrnd:∀ i L out,EdsI ps n i L out->i < n->∃ j r p q L' out',EdsF ps n i L out j r p q L' out':=fun i L out h h'=>edsF_ex hl hn h h'
 have hfin:∀ i L out,EdsI ps n i L out->¬ i < n->out=rs/\std.tk Sg out L=out:=fun i L out h h'=>by
  have h1:=h.h1
  have h2:=h.len
  refine ⟨by rw [h.eq,hrs,List.take_of_length_le (by rw [edgesP_len]; omega)],by rw [s_tk,List.take_of_length_le (by omega)]⟩
 clear hrs
 refine Con.of ttOk mixed Tryz.func36 {} edges_ok 4 (by kernel_rfl) (fun P' E hP hE=>?_)
 cbv
 refine LoopTo.nilC 1 0 52 cS cS_ok rfl rfl ?_
 refine LoopTo.by (ι:=Int × Int × List Sg) (fun x=>[(6,.v (.int .i64 n)),(7,.v (.int .i64 x.1))]) (fun x=>[(1,.cells [.s 4 x.2.1] 49),(4,.row true 52 cS x.2.2)]) (fun x=>EdsI ps n x.1 x.2.1 x.2.2) (fun x=>(n - x.1).toNat) (i0,l0,o0) [] hp0 ?_ ?_
 ·cbv
  subst hE
  and_intros
  all_goals first
   | exact True.intro
   | rfl
   | exact vi hn.symm
   | exact vj hi0.symm
   | exact congrArg (fun x=>AV.s 4 x) hl0.symm
   | exact Sm.of ho0.symm
   | (intro h; cases h; done)
   | (simp [hl0]; done)
 ·rintro ⟨i,L,out⟩ hi
  have hi:EdsI ps n i L out:=hi
  clear hp0
  cbv
  refine fork.mk ?_ ?_
  ·intro g
   have hlt:i < n:=by subst hE; simpa [std] using g
   refine Exists.elim (hrnd i L out hi hlt) ?_
   intro j h
   refine Exists.elim h ?_
   intro r h
   refine Exists.elim h ?_
   intro p h
   refine Exists.elim h ?_
   intro q h
   refine Exists.elim h ?_
   intro L' h
   refine Exists.elim h ?_
   intro out' hf
   have hn:n=(ps.length:Int):=hn
   have in1:0<=i/\i < (ps.length:Int):=by rw [<-hn]; exact hf.e.in1
   have hadd:=hf.e.add
   have hnz:std.nz .rem (std.len Pt ps):=by show (ps.length:Int) ≠ 0; have:=hf.e.nz; rw [<-hn]; exact this
   have hrem:std.ib .rem .i64 (std.ib .add .i64 i 1) (std.len Pt ps)=r:=by rw [hadd,s_len,<-hn]; exact hf.e.rem
   have in2:0<=std.ib .rem .i64 (std.ib .add .i64 i 1) (std.len Pt ps)/\std.ib .rem .i64 (std.ib .add .i64 i 1) (std.len Pt ps) < (ps.length:Int):=by rw [hrem,<-hn]; exact hf.e.in2
   have happ:std.app Sg (std.tk Sg out L) [⟨std.get Pt ps i zQ,std.get Pt ps (std.ib .rem .i64 (std.ib .add .i64 i 1) (std.len Pt ps)) zQ⟩]=out':=by rw [hrem,hf.e.g1,hf.e.g2]; exact hf.app
   have hfit:=hf.fit
   have hlen9:=hf.len
   have hinv:=hf.inv
   have hmu:=hf.e.mu
   clear hf h hi hlt g
   cbv
   refine Need.mk (by subst hE; exact in1) ?_
   cbv
   refine Need.mk (by subst hE; exact hnz) ?_
   cbv
   refine Need.mk (by subst hE; exact in2) ?_
   cbv
   refine Need.mk (by subst hE; exact hfit) ?_
   cbv
   refine ⟨(j,L',out'),[0,1,2,3,9],hinv,hmu,?_⟩
   cbv
   subst hE
   and_intros
   all_goals first
    | exact True.intro
    | rfl
    | exact Sm.of happ
    | exact congrArg (fun x=>AV.s 9 x) hlen9
    | exact vi hadd
    | exact vj hadd
    | (simp; done)
    | (intro h; cases h; done)
  ·intro g
   have hge:¬ i < n:=by subst hE; simpa [std] using g
   have hx:=hfin i L out hi hge
   have h1:out=rs:=hx.1
   have htk:std.tk Sg out L=out:=hx.2
   clear hi hge hfin hrnd g hx
   subst h1
   cbv
   subst hE
   first
    | exact Sm.of htk
    | exact ⟨Sm.of htk,trivial⟩
    | exact congrArg _ htk
abbrev zG:Sg:=⟨⟨⟨false,⟨#[]⟩,⟨#[]⟩⟩,⟨false,⟨#[]⟩,⟨#[]⟩⟩⟩,⟨⟨false,⟨#[]⟩,⟨#[]⟩⟩,⟨false,⟨#[]⟩,⟨#[]⟩⟩⟩⟩
structure CrsO (ps:List Pt) (n i:Int):Prop where
 h0:0<=i
 h1:i<=n
 no:∀ a,a < i.toNat->∀ b,a+2<=b->b < ps.length->crossAt (ps.map Pt.q) a b=false
structure CrsJ (ps:List Pt) (n i k:Int):Prop where
 h0:i+2<=k
 no:∀ b,i.toNat+2<=b->b < k.toNat->b < ps.length->crossAt (ps.map Pt.q) i.toNat b=false
structure CrsF (ps:List Pt) (n i k:Int) (x y m:Sg) (b:Bool) (e k':Int):Prop where
 in2:0<=k/\k < n
 g1:std.get Sg (edgesP ps) i zG=x
 g2:std.get Sg (edgesP ps) k zG=y
 c:Con Tryz.prog 196 [.v x.v,.v y.v] (.v (.tuple #[m.v,.bool b,.int .i64 e]))
 add:std.ib .add .i64 k 1=k'
 hit:b=true->¬ (i=0/\k=n - 1)->crossB (ps.map Pt.q)=true
 no:b=false->CrsJ ps n i k'
 skip:i=0/\k=n - 1->CrsJ ps n i k'
 mu:(n - k').toNat < (n - k).toNat
theorem edgeP_is {k0:Nat} {ps:List Pt} (hp:∀ p ∈ ps,IsP k0 p p.q) {i:Nat} (hi:i < ps.length):IsS k0 (edgeP ps i) (edgeQ (ps.map Pt.q) i):=by
 have hr:(i+1) % ps.length < ps.length:=Nat.mod_lt _ (by omega)
 unfold edgeP edgeQ
 rw [List.length_map]
 refine ⟨?_,?_⟩
 ·show IsP k0 _ (at' (ps.map Pt.q) i)
  rw [map_at hi]; exact hp _ (getD_mem hi)
 ·show IsP k0 _ (at' (ps.map Pt.q) ((i+1) % ps.length))
  rw [map_at hr]; exact hp _ (getD_mem hr)
theorem edgesP_get {ps:List Pt} {i:Nat} (hi:i < ps.length):(edgesP ps).getD i zG=edgeP ps i:=by
 unfold edgesP
 rw [List.getD_eq_getElem?_getD,List.getElem?_map,List.getElem?_eq_getElem (by simpa using hi)]
 simp
theorem crsF_ex {k0:Nat} {ps:List Pt} (hp:∀ p ∈ ps,IsP k0 p p.q) (hl:ps.length<=4096) (hk:40*k0+40<=134217728) {n i k:Int} (hn:n=(ps.length:Int)) (h0:0<=i) (h:CrsJ ps n i k) (hi:i < n) (hkn:k < n):∃ x y m b e k',CrsF ps n i k x y m b e k':=by
 have hk0:=h.h0
 have b1:i.toNat < ps.length:=by omega
 have b2:k.toNat < ps.length:=by omega
 obtain ⟨m,b,e,_,_,eb,_,km⟩:=smeet_p (edgeP_is hp b1) (edgeP_is hp b2) (by omega)
 have hca:crossAt (ps.map Pt.q) i.toNat k.toNat=(!(decide (i.toNat=0) && decide (k.toNat=ps.length - 1)) && b):=by
  unfold crossAt; rw [eb,List.length_map]
 have hup:crossAt (ps.map Pt.q) i.toNat k.toNat=false->CrsJ ps n i (k+1):=fun hc=>⟨by omega,fun c h1 h2 h3=>by
  by_cases e:c=k.toNat
  ·rw [e]; exact hc
  ·exact h.no c h1 (by omega) h3⟩
 refine ⟨edgeP ps i.toNat,edgeP ps k.toNat,m,b,e,k+1,⟨⟨by omega,hkn⟩,edgesP_get b1,edgesP_get b2,km,by rw [s_add,w64 (by omega) (by omega)],fun hb hne=>?_,fun hb=>hup (by rw [hca,hb]; simp),fun hs=>hup (by rw [hca,decide_eq_true (show i.toNat=0 by omega),decide_eq_true (show k.toNat=ps.length - 1 by omega)]; rfl),by omega⟩⟩
 unfold crossB
 rw [List.any_eq_true]
 refine ⟨i.toNat,by simp; omega,?_⟩
 rw [List.any_eq_true]
 refine ⟨k.toNat,by simp; omega,?_⟩
 rw [hca,hb,Bool.and_true,Bool.and_eq_true]
 refine ⟨decide_eq_true (by omega),?_⟩
 by_cases c:i.toNat=0
 ·rw [decide_eq_false (show ¬ k.toNat=ps.length - 1 by omega)]; simp
 ·rw [decide_eq_false c]; rfl
theorem cross_no {ps:List Pt} {n i:Int} (hn:n=(ps.length:Int)) (h:CrsO ps n i) (hi:¬ i < n):crossB (ps.map Pt.q)=false:=by
 rw [<-Bool.not_eq_true]
 intro hc
 unfold crossB at hc
 rw [List.any_eq_true] at hc
 obtain ⟨a,ha,hc⟩:=hc
 rw [List.any_eq_true] at hc
 obtain ⟨b,hb,hc⟩:=hc
 rw [Bool.and_eq_true,decide_eq_true_iff] at hc
 rw [List.mem_range,List.length_map] at ha hb
 rw [h.no a (by omega) b hc.1 hb] at hc
 cases hc.2
theorem crossing_q {k0:Nat} {ps:List Pt} (hp:∀ p ∈ ps,IsP k0 p p.q) (hl:ps.length<=4096) (hk:40*k0+40<=134217728):Con Tryz.prog 96 [.ro cP ps] (.v (.bool (crossB (ps.map Pt.q)))):=by
 obtain ⟨r0,e0⟩:∃ r,r=crossB (ps.map Pt.q):=⟨_,rfl⟩
 rw [<-e0]
 obtain ⟨n,hn⟩:∃ n:Int,n=ps.length:=⟨_,rfl⟩
 obtain ⟨i0,hi0⟩:∃ i:Int,i=0:=⟨_,rfl⟩
 have hp0:CrsO ps n i0:=⟨by omega,by omega,fun a ha=>by rw [hi0] at ha; exact absurd ha (Nat.not_lt_zero _)⟩
 have ke:=edges_q hl
 obtain ⟨rs,hrs⟩:∃ r,r=edgesP ps:=⟨_,rfl⟩
 have hrl:n=(rs.length:Int):=by rw [hn,hrs,edgesP_len]
 have hrnd:∀ i k,0<=i->i < n->CrsJ ps n i k->k < n->∃ x y m b e k',CrsF ps n i k x y m b e k':=fun i k h0 h1 h2 h3=>crsF_ex hp hl hk hn h0 h2 h1 h3
 have hstart:∀ i k,CrsO ps n i->i < n->k=i+2->CrsJ ps n i k:=fun i k h h1 h2=>⟨by omega,fun b h3 h4=>by have:=h.h0; omega⟩
 have hnext:∀ i k j,CrsO ps n i->i < n->CrsJ ps n i k->¬ k < n->j=i+1->CrsO ps n j:=fun i k j h h1 h2 h3 h4=>by
  have h5:=h.h0
  have h6:=h2.h0
  refine ⟨by omega,by omega,fun a ha b hb1 hb2=>?_⟩
  by_cases e:a=i.toNat
  ·rw [e]; exact h2.no b (by omega) (by omega) hb2
  ·exact h.no a (by omega) b hb1 hb2
 have hfin:∀ i,CrsO ps n i->¬ i < n->r0=false:=fun i h h'=>by rw [e0]; exact cross_no hn h h'
 have hln:std.len Sg rs=n:=hrl.symm
 have hsub:std.ib .sub .i64 n 1=n - 1:=by rw [s_sub,w64 (by omega) (by omega)]
 have tk9:std.tk Pt ps (std.len Pt ps)=ps:=by rw [s_tk,s_len]; exact List.take_of_length_le (by omega)
 rw [<-hrs] at ke
 refine Con.of ttOk mixed Tryz.func96 { ord:=[(10,(.op 0 (.op 1 (.op 2 (.op 3 (.op 4 (.op 5 (.op 6 (.op 7 (.br 8 (.op 9 (.op 10 (.op 11 (.op 12 (.op 13 (.op 14 (.op 15 (.op 16 .nil)))))))) (.br 13 (.op 8 (.op 9 (.op 10 (.op 11 (.op 12 (.op 14 (.op 15 (.op 16 .nil)))))))) .stop)))))))))))] } .nil 0 (by kernel_rfl) (fun P' E hP hE=>?_)
 cbv
 refine CallTo.con hP hE ke ⟨(by subst hE; exact Sm.of (c:=cP) tk9),trivial⟩ ?_
 cbv
 refine LoopTo.by (ι:=Int) (fun x=>[(4,.v (.int .i64 n)),(15,.v (.int .i64 n)),(16,.v (.int .i64 x))]) (fun x=>[]) (fun x=>CrsO ps n x) (fun x=>(n - x).toNat) i0 [] hp0 ?_ ?_
 ·cbv
  subst hE
  and_intros
  all_goals first
   | exact True.intro
   | rfl
   | exact vi hln
   | exact vj hln
   | exact vi hi0.symm
   | exact vj hi0.symm
   | (simp; done)
 ·intro i hi
  have hi:CrsO ps n i:=hi
  clear hp0
  cbv
  refine fork.mk ?_ ?_
  ·intro g
   have hrl:n=(rs.length:Int):=hrl
   have hn:n=(ps.length:Int):=hn
   have hlt:i < n:=by subst hE; simpa [std] using g
   have h0:=hi.h0
   have in1:0<=i/\i < (rs.length:Int):=⟨h0,by omega⟩
   obtain ⟨k0,hk0⟩:∃ k,k=i+2:=⟨_,rfl⟩
   have hk0E:std.ib .add .i64 i 2=k0:=by rw [s_add,w64 (by omega) (by omega),hk0]
   have hJ0:=hstart i k0 hi hlt hk0
   obtain ⟨i2,hi2⟩:∃ j,j=i+1:=⟨_,rfl⟩
   have hi2E:std.ib .add .i64 i 1=i2:=by rw [s_add,w64 (by omega) (by omega),hi2]
   have hmu2:(n - i2).toNat < (n - i).toNat:=by omega
   have hnext2:∀ k,CrsJ ps n i k->¬ k < n->CrsO ps n i2:=fun k h1 h2=>hnext i k i2 hi hlt h1 h2 hi2
   clear hk0 hi2 hstart g
   cbv
   refine LoopTo.by (ι:=Int) (fun x=>[(6,.v (.int .i64 x))]) (fun x=>[]) (fun x=>CrsJ ps n i x) (fun x=>(n - x).toNat) k0 [] hJ0 ?_ ?_
   ·cbv
    subst hE
    and_intros
    all_goals first
     | exact True.intro
     | rfl
     | exact vi hk0E
     | exact vj hk0E
     | (simp; done)
   ·intro k hk
    have hk:CrsJ ps n i k:=hk
    clear hJ0
    cbv
    refine fork.mk ?_ ?_
    ·intro g2
     have hkn:k < n:=by subst hE; simpa [std] using g2
     have hf0:=hrnd i k h0 hlt hk hkn
     clear hk g2
     cbv
     refine Exists.elim hf0 ?_
     intro x h
     refine Exists.elim h ?_
     intro y h
     refine Exists.elim h ?_
     intro m h
     refine Exists.elim h ?_
     intro b h
     refine Exists.elim h ?_
     intro e h
     refine Exists.elim h ?_
     intro k' hf
     have hrl:n=(rs.length:Int):=hrl
     have in2:0<=k/\k < (rs.length:Int):=by rw [<-hrl]; exact hf.in2
     have hrs:rs=edgesP ps:=hrs
     have hg1:=hf.g1
     have hg2:=hf.g2
     rw [<-hrs] at hg1 hg2
     have km:=hf.c
     have hadd:=hf.add
     have hhit:=hf.hit
     have hno:=hf.no
     have hskip:=hf.skip
     have hmu:=hf.mu
     clear hf h hf0 hkn
     refine fork.mk ?_ ?_
     ·intro g3
      have hz:i=0:=by subst hE; simpa [std] using g3
      cbv
      refine fork.mk ?_ ?_
      ·intro g4
       have he:k=n - 1:=by
        subst hE
        have g4:std.ic .eql k (std.ib .sub .i64 n 1)=true:=g4
        rw [hsub] at g4; simpa using g4
       have hst:=hskip ⟨hz,he⟩
       clear hno hskip hnext hfin hrnd hhit
       cbv
       refine ⟨k',[],hst,hmu,?_⟩
       cbv
       subst hE
       and_intros
       all_goals first
        | exact True.intro
        | rfl
        | exact vi hadd
        | exact vj hadd
        | (simp; done)
      ·intro g4
       have he:¬ k=n - 1:=by
        subst hE
        have g4:std.ic .eql k (std.ib .sub .i64 n 1)=false:=g4
        rw [hsub] at g4; simpa using g4
       cbv
       refine DrawTo.byU [(7,.p 2 0),(8,.v (.bool b)),(9,.v (.int .i64 e))] [.cells m.av 52] ?_ ?_
       ·cbv
        repeat' first
         | exact True.intro
         | (refine Need.mk (by subst hE; exact in1) ?_; cbv)
         | (refine Need.mk (by subst hE; exact in2) ?_; cbv)
         | (refine Both.mk ?_ ?_<;>cbv)
         | (refine CallTo.w hP hE km ⟨(by subst hE; exact congrArg (fun p:Sg=>p.v) hg1),(by subst hE; exact congrArg (fun p:Sg=>p.v) hg2),trivial⟩ ?_; cbv)
         | (and_intros<;>first | exact True.intro | rfl | (intro h; cases h; done) | (intro h; rfl))
       ·cbv
        refine fork.mk ?_ ?_
        ·intro g9
         have hr:=hhit g9 (fun c=>he c.2)
         clear hno hskip hnext hfin hrnd hhit
         rw [<-e0] at hr
         subst hr
         cbv
        ·intro g9
         have hst:=hno g9
         cbv
         refine ⟨k',[],hst,hmu,?_⟩
         cbv
         subst hE
         and_intros
         all_goals first
          | exact True.intro
          | rfl
          | exact vi hadd
          | exact vj hadd
          | (simp; done)
     ·intro g3
      have hz:¬ i=0:=by subst hE; simpa [std] using g3
      cbv
      refine DrawTo.byU [(7,.p 2 0),(8,.v (.bool b)),(9,.v (.int .i64 e))] [.cells m.av 52] ?_ ?_
      ·cbv
       repeat' first
        | exact True.intro
        | (refine Need.mk (by subst hE; exact in1) ?_; cbv)
        | (refine Need.mk (by subst hE; exact in2) ?_; cbv)
        | (refine Both.mk ?_ ?_<;>cbv)
        | (refine CallTo.w hP hE km ⟨(by subst hE; exact congrArg (fun p:Sg=>p.v) hg1),(by subst hE; exact congrArg (fun p:Sg=>p.v) hg2),trivial⟩ ?_; cbv)
        | (and_intros<;>first | exact True.intro | rfl | (intro h; cases h; done) | (intro h; rfl))
      ·cbv
       refine fork.mk ?_ ?_
       ·intro g9
        have hr:=hhit g9 (fun c=>hz c.1)
        clear hno hskip hnext hfin hrnd hhit
        rw [<-e0] at hr
        subst hr
        cbv
       ·intro g9
        have hst:=hno g9
        cbv
        refine ⟨k',[],hst,hmu,?_⟩
        cbv
        subst hE
        and_intros
        all_goals first
         | exact True.intro
         | rfl
         | exact vi hadd
         | exact vj hadd
         | (simp; done)
    ·intro g2
     have hge:¬ k < n:=by subst hE; simpa [std] using g2
     have hst:=hnext2 k hk hge
     cbv
     refine ⟨i2,[],hst,hmu2,?_⟩
     cbv
     subst hE
     and_intros
     all_goals first
      | exact True.intro
      | rfl
      | exact vi hi2E
      | exact vj hi2E
      | (simp; done)
  ·intro g
   have hge:¬ i < n:=by subst hE; simpa [std] using g
   have hr:=hfin i hi hge
   clear hi hge hfin hrnd hnext hstart g e0
   subst hr
   cbv
structure FltI (ps:List Pt) (n i:Int):Prop where
 h0:0<=i
 h1:i<=n
 no:∀ k,k < i.toNat->flatAt (ps.map Pt.q) k=false
/-- A round. -/
structure FltF (ps:List Pt) (n i:Int) (a b c j:Int) (p q r:Pt) (m:Int):Prop where
 in1:0<=i/\i < (ps.length:Int)
 in0:0<=a/\a < (ps.length:Int)
 in2:0<=c/\c < (ps.length:Int)
 nz:n ≠ 0
 e1:std.ib .add .i64 i n=b
 e2:std.ib .rem .i64 (std.ib .sub .i64 b 1) n=a
 e3:std.ib .add .i64 i 1=j
 e4:std.ib .rem .i64 j n=c
 g0:std.get Pt ps a zQ=p
 g1:std.get Pt ps i zQ=q
 g2:std.get Pt ps c zQ=r
 co:Con Tryz.prog 28 [.v p.v,.v q.v,.v r.v] (.v (.int .i64 m))
 yes:m=0->flatI (ps.map Pt.q)=i
 no:m ≠ 0->FltI ps n j
 mu:(n - j).toNat < (n - i).toNat
theorem fltF_ex {k0:Nat} {ps:List Pt} (hp:∀ p ∈ ps,IsP k0 p p.q) (hl:ps.length<=4096) (hk:16*k0+16<=134217728) {n i:Int} (hn:n=(ps.length:Int)) (h:FltI ps n i) (hi:i < n):∃ a b c j p q r m,FltF ps n i a b c j p q r m:=by
 have h0:=h.h0
 obtain ⟨N,hN⟩:∃ N:Nat,N=ps.length:=⟨_,rfl⟩
 obtain ⟨u,hu⟩:∃ u:Nat,(u:Int)=i:=⟨i.toNat,by omega⟩
 have hNn:n=(N:Int):=by omega
 have l0:(u+N - 1) % N < N:=Nat.mod_lt _ (by omega)
 have l2:(u+1) % N < N:=Nat.mod_lt _ (by omega)
 obtain ⟨m,em,km⟩:=orient_p (hp _ (getD_mem (show (u+N - 1) % N < ps.length by omega))) (hp _ (getD_mem (show u < ps.length by omega))) (hp _ (getD_mem (show (u+1) % N < ps.length by omega))) (by omega)
 have hfl:flatAt (ps.map Pt.q) u=decide (m=0):=by
  unfold flatAt
  rw [List.length_map,<-hN,map_at (show (u+N - 1) % N < ps.length by omega),map_at (show u < ps.length by omega),map_at (show (u+1) % N < ps.length by omega),em]
 refine ⟨(((u+N - 1) % N:Nat):Int),i+n,(((u+1) % N:Nat):Int),i+1,ps.getD ((u+N - 1) % N) zQ,ps.getD u zQ,ps.getD ((u+1) % N) zQ,m,⟨by omega,by omega,by omega,by omega,?_,?_,?_,?_,rfl,?_,rfl,?_,?_,?_,by omega⟩⟩
 ·rw [s_add,w64 (by omega) (by omega)]
 ·rw [s_sub,w64 (by omega) (by omega),s_rem]
  have e:(i+n - 1:Int)=((u+N - 1:Nat):Int):=by omega
  rw [e,hNn]
  have:Int.tmod ((u+N - 1:Nat):Int) (N:Int)=(((u+N - 1) % N:Nat):Int):=rfl
  rw [this]
 ·rw [s_add,w64 (by omega) (by omega)]
 ·rw [s_rem]
  have e:(i+1:Int)=((u+1:Nat):Int):=by omega
  rw [e,hNn]
  have:Int.tmod ((u+1:Nat):Int) (N:Int)=(((u+1) % N:Nat):Int):=rfl
  rw [this]
 ·rw [<-hu]; rfl
 ·exact km
 ·intro c
  rw [<-hu]
  refine flatI_at (by rw [List.length_map]; omega) (fun k hk=>h.no k (by omega)) (by rw [hfl]; exact decide_eq_true c)
 ·intro c
  refine ⟨by omega,by omega,fun k hk=>?_⟩
  by_cases e:k=u
  ·rw [e,hfl]; exact decide_eq_false c
  ·exact h.no k (by omega)
theorem flat_q {k0:Nat} {ps:List Pt} (hp:∀ p ∈ ps,IsP k0 p p.q) (hl:ps.length<=4096) (hk:16*k0+16<=134217728):Con Tryz.prog 106 [.ro cP ps] (.v (.int .i64 (flatI (ps.map Pt.q)))):=by
 obtain ⟨r0,e0⟩:∃ r:Int,r=flatI (ps.map Pt.q):=⟨_,rfl⟩
 rw [<-e0]
 obtain ⟨n,hn⟩:∃ n:Int,n=ps.length:=⟨_,rfl⟩
 obtain ⟨i0,hi0⟩:∃ i:Int,i=0:=⟨_,rfl⟩
 have hp0:FltI ps n i0:=⟨by omega,by omega,fun k hk=>by rw [hi0] at hk; exact absurd hk (Nat.not_lt_zero _)⟩
 have hrnd:∀ i,FltI ps n i->i < n->∃ a b c j p q r m,FltF ps n i a b c j p q r m:=fun i h h'=>fltF_ex hp hl hk hn h h'
 have hfin:∀ i,FltI ps n i->¬ i < n->r0 = -1:=fun i h h'=>by
  have h1:=h.h1
  rw [e0]
  exact flatI_no (fun k hk=>h.no k (by rw [List.length_map] at hk; omega))
 have hyes9:∀ i,flatI (ps.map Pt.q)=i->i=r0:=fun i h=>by rw [e0,h]
 clear e0
 refine Con.of ttOk mixed Tryz.func106 { ord:=[(5,[0,1,2,3,4,5,6,7,8,9,10,11,12,13,14,15,16,17,18])] } .nil 0 (by kernel_rfl) (fun P' E hP hE=>?_)
 cbv
 refine LoopTo.by (ι:=Int) (fun x=>[(3,.v (.int .i64 n)),(9,.v (.int .i64 n)),(10,.v (.int .i64 x))]) (fun x=>[]) (fun x=>FltI ps n x) (fun x=>(n - x).toNat) i0 [] hp0 ?_ ?_
 ·cbv
  subst hE
  and_intros
  all_goals first
   | exact True.intro
   | rfl
   | exact vi hn.symm
   | exact vj hi0.symm
   | (simp; done)
 ·intro i hi
  have hi:FltI ps n i:=hi
  clear hp0
  cbv
  refine fork.mk ?_ ?_
  ·intro g
   have hlt:i < n:=by subst hE; simpa [std] using g
   cbv
   refine Exists.elim (hrnd i hi hlt) ?_
   intro a h
   refine Exists.elim h ?_
   intro b h
   refine Exists.elim h ?_
   intro c h
   refine Exists.elim h ?_
   intro j h
   refine Exists.elim h ?_
   intro p h
   refine Exists.elim h ?_
   intro q h
   refine Exists.elim h ?_
   intro r h
   refine Exists.elim h ?_
   intro m hf
   have in1:=hf.in1
   have e1:=hf.e1
   have e2:=hf.e2
   have e3:=hf.e3
   have e4:=hf.e4
   have in0:0<=std.ib .rem .i64 (std.ib .sub .i64 (std.ib .add .i64 i n) 1) n/\std.ib .rem .i64 (std.ib .sub .i64 (std.ib .add .i64 i n) 1) n < (ps.length:Int):=by rw [e1,e2]; exact hf.in0
   have in2:0<=std.ib .rem .i64 (std.ib .add .i64 i 1) n/\std.ib .rem .i64 (std.ib .add .i64 i 1) n < (ps.length:Int):=by rw [e3,e4]; exact hf.in2
   have hnz:std.nz .rem n:=hf.nz
   have hg0:std.get Pt ps (std.ib .rem .i64 (std.ib .sub .i64 (std.ib .add .i64 i n) 1) n) zQ=p:=by rw [e1,e2]; exact hf.g0
   have hg1:=hf.g1
   have hg2:std.get Pt ps (std.ib .rem .i64 (std.ib .add .i64 i 1) n) zQ=r:=by rw [e3,e4]; exact hf.g2
   have ko:=hf.co
   have hyes:=hf.yes
   have hno:=hf.no
   have hmu:=hf.mu
   clear hf h hi hlt g
   cbv
   refine Need.mk (by subst hE; exact in1) ?_
   cbv
   refine Need.mk (by subst hE; exact hnz) ?_
   cbv
   refine Need.mk (by subst hE; exact in0) ?_
   cbv
   refine Need.mk (by subst hE; exact hnz) ?_
   cbv
   refine Need.mk (by subst hE; exact in2) ?_
   cbv
   refine CallTo.w hP hE ko ⟨(by subst hE; exact congrArg (fun p:Pt=>p.v) hg0),(by subst hE; exact congrArg (fun p:Pt=>p.v) hg1),(by subst hE; exact congrArg (fun p:Pt=>p.v) hg2),trivial⟩ ?_
   cbv
   refine fork.mk ?_ ?_
   ·intro g1
    have c1:m=0:=by subst hE; simpa [std] using g1
    have hr:=hyes9 i (hyes c1)
    cbv
    exact vj hr
   ·intro g1
    have c1:¬ m=0:=by subst hE; simpa [std] using g1
    have hst:=hno c1
    cbv
    refine ⟨j,[],hst,hmu,?_⟩
    cbv
    subst hE
    and_intros
    all_goals first
     | exact True.intro
     | rfl
     | exact vi e3
     | exact vj e3
     | (simp; done)
  ·intro g
   have hge:¬ i < n:=by subst hE; simpa [std] using g
   have hx:=hfin i hi hge
   clear hi hge hfin hrnd g
   subst hx
   cbv
/-- Why a list of 3 to 64 points is no ring. -/
def chkI (ps:List Pt):Int:=
 if canL ps=true then
  if 0<=flatI (ps.map Pt.q) then 12
  else if crossB (ps.map Pt.q)=true then 13
  else if cmpQ (areaQ (ps.map Pt.q)) 0<=0 then 8
  else if ((firstI (ps.map Pt.q):Nat):Int)=0 then 0 else 8
 else 1
theorem chk_q {k:Nat} {ps:List Pt} (hp:∀ p ∈ ps,IsP k p p.q) (h3:3<=ps.length) (h64:ps.length<=64) (hk:40960*k+40960<=134217728) (hk1:1<=k) (hs:Con Tryz.prog 97 [.v (cr (areaQ (ps.map Pt.q))).v] (.v (.int .i64 (cmpQ (areaQ (ps.map Pt.q)) 0)))):Con Tryz.prog 19 [.ro cP ps] (.v (.int .i64 (chkI ps))):=by
 have hl:ps.length<=4096:=by omega
 have kcan:=canonL_q hp (show k<=134217728 by omega) (show ps.length<=140737488355328 by omega)
 have kflat:=flat_q hp hl (show 16*k+16<=134217728 by omega)
 have kcross:=crossing_q hp hl (show 40*k+40<=134217728 by omega)
 have karea:=area_q hp hl hk hk1
 have kfirst:=first_q hp hl (show 2*k<=134217728 by omega)
 obtain ⟨n,hn⟩:∃ n:Int,n=ps.length:=⟨_,rfl⟩
 have hln:std.len Pt ps=n:=by rw [s_len,hn]
 have tk9:std.tk Pt ps (std.len Pt ps)=ps:=by rw [s_tk,s_len]; exact List.take_of_length_le (by omega)
 have hn3:¬ n < 3:=by omega
 have hn64:¬ 64 < n:=by omega
 obtain ⟨r0,e0⟩:∃ r:Int,r=chkI ps:=⟨_,rfl⟩
 rw [<-e0]
 unfold chkI at e0
 obtain ⟨c,hc⟩:∃ c,c=canL ps:=⟨_,rfl⟩
 obtain ⟨f,hf⟩:∃ c,c=flatI (ps.map Pt.q):=⟨_,rfl⟩
 obtain ⟨x,hx⟩:∃ c,c=crossB (ps.map Pt.q):=⟨_,rfl⟩
 obtain ⟨a,ha⟩:∃ c,c=cr (areaQ (ps.map Pt.q)):=⟨_,rfl⟩
 obtain ⟨m,hm⟩:∃ c,c=cmpQ (areaQ (ps.map Pt.q)) 0:=⟨_,rfl⟩
 obtain ⟨i,hi⟩:∃ c:Int,c=((firstI (ps.map Pt.q):Nat):Int):=⟨_,rfl⟩
 rw [<-hc] at kcan e0
 rw [<-hf] at kflat e0
 rw [<-hx] at kcross e0
 rw [<-ha] at karea hs
 rw [<-hm] at hs e0
 rw [<-hi] at kfirst e0
 clear hc hf hx ha hm hi hp hk hk1 hl h3 h64
 have w1:¬ c=true->r0=1:=fun h=>by rw [e0,if_neg h]
 have w2:c=true->0<=f->r0=12:=fun h h'=>by rw [e0,if_pos h,if_pos h']
 have w3:c=true->¬ 0<=f->x=true->r0=13:=fun h h' h2=>by rw [e0,if_pos h,if_neg h',if_pos h2]
 have w4:c=true->¬ 0<=f->¬ x=true->m<=0->r0=8:=fun h h' h2 h3=>by rw [e0,if_pos h,if_neg h',if_neg h2,if_pos h3]
 have w5:c=true->¬ 0<=f->¬ x=true->¬ m<=0->¬ i=0->r0=8:=fun h h' h2 h3 h4=>by rw [e0,if_pos h,if_neg h',if_neg h2,if_neg h3,if_neg h4]
 have w6:c=true->¬ 0<=f->¬ x=true->¬ m<=0->i=0->r0=0:=fun h h' h2 h3 h4=>by rw [e0,if_pos h,if_neg h',if_neg h2,if_neg h3,if_pos h4]
 clear e0
 refine Con.of ttOk mixed Tryz.func19 {} .nil 0 (by kernel_rfl) (fun P' E hP hE=>?_)
 cbv
 refine fork.mk ?_ ?_
 ·intro g
  exact absurd (show n < 3 by subst hE; rw [<-hln]; simpa [std] using g) hn3
 ·intro g
  clear g
  cbv
  refine fork.mk ?_ ?_
  ·intro g
   exact absurd (show 64 < n by subst hE; rw [<-hln]; simpa [std] using g) hn64
  ·intro g
   clear g
   cbv
   refine CallTo.w hP hE kcan ⟨(by subst hE; exact Sm.of (c:=cP) tk9),trivial⟩ ?_
   cbv
   refine fork.mk ?_ ?_
   ·intro g
    have c1:¬ c=true:=by subst hE; simpa [std] using g
    have hr:=w1 c1
    cbv
    exact vj hr.symm
   ·intro g
    have c1:c=true:=by subst hE; simpa [std] using g
    cbv
    refine CallTo.w hP hE kflat ⟨(by subst hE; exact Sm.of (c:=cP) tk9),trivial⟩ ?_
    cbv
    refine fork.mk ?_ ?_
    ·intro g
     have c2:0<=f:=by subst hE; simpa [std] using g
     have hr:=w2 c1 c2
     cbv
     exact vj hr.symm
    ·intro g
     have c2:¬ 0<=f:=by subst hE; simpa [std] using g
     cbv
     refine CallTo.w hP hE kcross ⟨(by subst hE; exact Sm.of (c:=cP) tk9),trivial⟩ ?_
     cbv
     refine fork.mk ?_ ?_
     ·intro g
      have c3:x=true:=by simpa using g
      have hr:=w3 c1 c2 c3
      cbv
      exact vj hr.symm
     ·intro g
      have c3:¬ x=true:=by simpa using g
      cbv
      refine CallTo.w hP hE karea ⟨(by subst hE; exact Sm.of (c:=cP) tk9),trivial⟩ ?_
      cbv
      refine CallTo.w hP hE hs ⟨rfl,trivial⟩ ?_
      cbv
      refine fork.mk ?_ ?_
      ·intro g
       have c4:m<=0:=by subst hE; simpa [std] using g
       have hr:=w4 c1 c2 c3 c4
       cbv
       exact vj hr.symm
      ·intro g
       have c4:¬ m<=0:=by subst hE; simpa [std] using g
       cbv
       refine CallTo.w hP hE kfirst ⟨(by subst hE; exact Sm.of (c:=cP) tk9),trivial⟩ ?_
       cbv
       refine fork.mk ?_ ?_
       ·intro g
        have c5:¬ i=0:=by subst hE; simpa [std] using g
        have hr:=w5 c1 c2 c3 c4 c5
        cbv
        exact vj hr.symm
       ·intro g
        have c5:i=0:=by subst hE; simpa [std] using g
        have hr:=w6 c1 c2 c3 c4 c5
        cbv
        exact vj hr.symm
/-- Check's answer. -/
def chkA (ps:List Pt):Int:=if ps.length < 3\/64 < ps.length then 4 else chkI ps
theorem area_bd {k:Nat} {l:List Pq} (hl:l.length<=4096) (hp:∀ q ∈ l,BdP k q) (hk1:1<=k):Bd (20480*k+20488) (areaQ l):=by
 have h:=sum_bd hl hp hk1 l.length
 rw [edges_all (Nat.le_refl _)] at h
 exact (h.div (bd_int (n:=2) (by decide))).mono (by omega)
theorem chk_a {k:Nat} {ps:List Pt} (hp:∀ p ∈ ps,IsP k p p.q) (hl:ps.length<=9223372036854775807) (hk:40960*k+40960<=134217728) (hk1:1<=k):Con Tryz.prog 19 [.ro cP ps] (.v (.int .i64 (chkA ps))):=by
 unfold chkA
 by_cases c:ps.length < 3\/64 < ps.length
 ·rw [if_pos c]
  obtain ⟨n,hn⟩:∃ n:Int,n=ps.length:=⟨_,rfl⟩
  have hln:std.len Pt ps=n:=by rw [s_len,hn]
  have c9:¬ n < 3->¬ 64 < n->False:=by omega
  clear hp hl hk hk1 c hn
  refine Con.of ttOk mixed Tryz.func19 {} .nil 0 (by kernel_rfl) (fun P' E hP hE=>?_)
  cbv
  refine fork.mk ?_ ?_
  ·intro g
   cbv
  ·intro g
   have c1:¬ n < 3:=by subst hE; rw [<-hln]; simpa [std] using g
   cbv
   refine fork.mk ?_ ?_
   ·intro g
    cbv
   ·intro g
    have c2:¬ 64 < n:=by subst hE; rw [<-hln]; simpa [std] using g
    exact (c9 c1 c2).elim
 ·rw [if_neg c]
  have h1:3<=ps.length:=by omega
  have h2:ps.length<=64:=by omega
  exact chk_q hp h1 h2 hk hk1 (sign_q (area_bd (by rw [List.length_map]; omega) (pts_bd hp) hk1).is (by omega))
end Go.Proofs.YtkipmmiiackdaaaGreat.Sx
