/- Part 36 of what the statement needs: an executor of Go texts, arithmetic, and contracts of the functions that are called. -/
import Derived.Test.YtkipmmiiackdaaaGreatCa11
import Derived.Test.YtkipmmiiackdaaaGreatCa16
import Derived.Test.YtkipmmiiackdaaaGreatCa32
import Derived.Test.YtkipmmiiackdaaaGreatCa33
import Derived.Test.YtkipmmiiackdaaaGreatCa35
set_option linter.unusedSimpArgs false
set_option linter.unusedVariables false
set_option maxHeartbeats 16000000
set_option maxRecDepth 100000
namespace Go.Proofs.YtkipmmiiackdaaaGreat.Sx
open Env (std)
theorem side_q {k:Nat} {ps:List Pt} (hp:∀ p ∈ ps,IsP k p p.q) (hl:ps.length<=4096) (hk:16*k+16<=134217728) {z:Pt} (hz:IsP k z z.q):Con Tryz.prog 118 [.ro cP ps,.v z.v] (.v (.int .i64 (sideQ (ps.map Pt.q) z.q))):=by
 have ko:=on_q hp hl hk hz
 have kd:=yodd_q hp hl hk hz
 have tk9:std.tk Pt ps (std.len Pt ps)=ps:=by rw [s_tk,s_len]; exact List.take_of_length_le (by omega)
 obtain ⟨r,er⟩:∃ r,r=sideQ (ps.map Pt.q) z.q:=⟨_,rfl⟩
 rw [<-er]
 unfold sideQ at er
 obtain ⟨b1,e1⟩:∃ r,r=onE (ps.map Pt.q) z.q:=⟨_,rfl⟩
 obtain ⟨b2,e2⟩:∃ r,r=oddQ (ps.map Pt.q) z.q:=⟨_,rfl⟩
 rw [<-e1] at ko er
 rw [<-e2] at kd er
 have w1:b1=true->0=r:=fun h=>by rw [er,if_pos h]
 have w2:¬ b1=true->b2=true->1=r:=fun h h'=>by rw [er,if_neg h,if_pos h']
 have w3:¬ b1=true->¬ b2=true -> -1=r:=fun h h'=>by rw [er,if_neg h,if_neg h']
 clear er e1 e2 hp hl hk hz
 refine Con.of ttOk mixed Tryz.func118 {} .nil 0 (by kernel_rfl) (fun P' E hP hE=>?_)
 cbv
 refine CallTo.w hP hE ko ⟨(by subst hE; exact Sm.of (c:=cP) tk9),rfl,trivial⟩ ?_
 cbv
 refine fork.mk ?_ ?_
 ·intro g
  have hr:=w1 (by simpa using g)
  cbv
  exact vj hr
 intro g
 have c1:¬ b1=true:=by simpa using g
 cbv
 refine CallTo.w hP hE kd ⟨(by subst hE; exact Sm.of (c:=cP) tk9),rfl,trivial⟩ ?_
 cbv
 refine fork.mk ?_ ?_
 ·intro g
  have hr:=w2 c1 (by simpa using g)
  cbv
  exact vj hr
 ·intro g
  have hr:=w3 c1 (by simpa using g)
  cbv
  exact vj hr
theorem canL_one (z:Pt):canL [z]=canP z:=by unfold canL; simp
theorem yinside_q {k:Nat} {ps:List Pt} (hp:∀ p ∈ ps,IsP k p p.q) (hl:ps.length<=9223372036854775807) (hk:40960*k+40960<=134217728) (hk1:1<=k) {z:Pt} (hz:IsP k z z.q):Con Tryz.prog 33 [.ro cP ps,.v z.v] (.v (.tuple #[.int .i64 (insS ps z),.int .i64 (insE ps z)])):=by
 have kchk:=ychk_a hp hl hk hk1
 have kp:=ychk_q' hz (show k<=134217728 by omega)
 have h64:chkA ps=0->ps.length<=64:=fun h=>Classical.byContradiction fun c=>by
  unfold chkA at h
  rw [if_pos (Or.inr (by omega))] at h
  exact absurd h (by decide)
 have tk9:std.tk Pt ps (std.len Pt ps)=ps:=by rw [s_tk,s_len]; exact List.take_of_length_le (by omega)
 obtain ⟨s0,es⟩:∃ r:Int,r=insS ps z:=⟨_,rfl⟩
 obtain ⟨e0,ee⟩:∃ r:Int,r=insE ps z:=⟨_,rfl⟩
 rw [<-es,<-ee]
 unfold insS at es
 unfold insE at ee
 rw [canL_one] at es ee
 obtain ⟨c,hc⟩:∃ c,c=chkA ps:=⟨_,rfl⟩
 obtain ⟨m,hm⟩:∃ m:Int,m=if canP z=true then 0 else 1:=⟨_,rfl⟩
 obtain ⟨d,hd⟩:∃ d:Int,d=sideQ (ps.map Pt.q) z.q:=⟨_,rfl⟩
 rw [<-hc] at kchk es ee h64
 rw [<-hm] at kp
 have kside:c=0->Con Tryz.prog 118 [.ro cP ps,.v z.v] (.v (.int .i64 d)):=fun h=>by rw [hd]; exact side_q hp (by have:=h64 h; omega) (by omega) hz
 have hcan:m=0 ↔ canP z=true:=by
  rw [hm]
  by_cases c:canP z=true
  ·rw [if_pos c]; exact ⟨fun _=>c,fun _=>rfl⟩
  ·rw [if_neg c]; exact ⟨fun h=>absurd h (by decide),fun h=>absurd h c⟩
 have w1:¬ c=0->0=s0/\1=e0:=fun h=>⟨by rw [es,if_neg h],by rw [ee,if_neg h]⟩
 have w2:c=0->¬ m=0->0=s0/\1=e0:=fun h h'=>⟨by rw [es,if_pos h,if_neg (fun x=>h' (hcan.2 x))],by rw [ee,if_pos h,if_neg (fun x=>h' (hcan.2 x))]⟩
 have w3:c=0->m=0->d=s0/\0=e0:=fun h h'=>⟨by rw [es,if_pos h,if_pos (hcan.1 h'),hd],by rw [ee,if_pos h,if_pos (hcan.1 h')]⟩
 have w9:∀ {b b':Int} {i i':Int},b=b'/\i=i'->Value.tuple #[.int .i64 b,.int .i64 i]=Value.tuple #[.int .i64 b',.int .i64 i']:=fun h=>by rw [h.1,h.2]
 clear es ee hc hm hd hp hl hk hk1 hz h64 hcan
 refine Con.of ttOk mixed Tryz.func33 {} .nil 0 (by kernel_rfl) (fun P' E hP hE=>?_)
 cbv
 refine CallTo.w hP hE kchk ⟨(by subst hE; exact Sm.of (c:=cP) tk9),trivial⟩ ?_
 cbv
 refine fork.mk ?_ ?_
 ·intro g
  have hr:=w1 (by subst hE; simpa [std] using g)
  cbv
  exact w9 hr
 intro g
 have c1:c=0:=by subst hE; simpa [std] using g
 have kside:=kside c1
 cbv
 refine CallTo.w hP hE kp ⟨rfl,trivial⟩ ?_
 cbv
 refine fork.mk ?_ ?_
 ·intro g
  have hr:=w2 c1 (by subst hE; simpa [std] using g)
  cbv
  exact w9 hr
 ·intro g
  have hr:=w3 c1 (by subst hE; simpa [std] using g)
  cbv
  refine CallTo.w hP hE kside ⟨(by subst hE; exact Sm.of (c:=cP) tk9),rfl,trivial⟩ ?_
  cbv
  exact w9 hr
theorem yparity_q {k:Nat} {ps:List Pt} (hp:∀ p ∈ ps,IsP k p p.q) (hl:ps.length<=4096) (hk:16*k+16<=134217728) {z:Pt} (hz:IsP k z z.q):Con Tryz.prog 35 [.ro cP ps,.v z.v] (.v (.tuple #[.bool (parB ps z),.int .i64 (parI ps z)])):=by
 have kcan:=ycanL_q hp (show k<=134217728 by omega) (show ps.length<=140737488355328 by omega)
 have kp:=ychk_q' hz (show k<=134217728 by omega)
 have kodd:=yodd_q hp hl hk hz
 obtain ⟨n,hn⟩:∃ n:Int,n=ps.length:=⟨_,rfl⟩
 have hln:std.len Pt ps=n:=by rw [s_len,hn]
 have tk9:std.tk Pt ps (std.len Pt ps)=ps:=by rw [s_tk,s_len]; exact List.take_of_length_le (by omega)
 obtain ⟨b0,eb⟩:∃ r:Bool,r=parB ps z:=⟨_,rfl⟩
 obtain ⟨r0,er⟩:∃ r:Int,r=parI ps z:=⟨_,rfl⟩
 rw [<-eb,<-er]
 unfold parB at eb
 unfold parI at er
 rw [<-hn,canL_one] at eb er
 obtain ⟨c,hc⟩:∃ c,c=canL ps:=⟨_,rfl⟩
 obtain ⟨m,hm⟩:∃ m:Int,m=if canP z=true then 0 else 1:=⟨_,rfl⟩
 obtain ⟨o,ho⟩:∃ c,c=oddQ (ps.map Pt.q) z.q:=⟨_,rfl⟩
 rw [<-hc] at kcan eb er
 rw [<-hm] at kp
 rw [<-ho] at kodd eb
 have hcan:m=0 ↔ canP z=true:=by
  rw [hm]
  by_cases c:canP z=true
  ·rw [if_pos c]; exact ⟨fun _=>c,fun _=>rfl⟩
  ·rw [if_neg c]; exact ⟨fun h=>absurd h (by decide),fun h=>absurd h c⟩
 have w1:¬ c=true->false=b0/\1=r0:=fun h=>⟨by rw [eb,if_neg h],by rw [er,if_neg h]⟩
 have w2:c=true->¬ m=0->false=b0/\1=r0:=fun h h'=>⟨by rw [eb,if_pos h,if_neg (fun x=>h' (hcan.2 x))],by rw [er,if_pos h,if_neg (fun x=>h' (hcan.2 x))]⟩
 have w3:c=true->m=0->1000 < n->false=b0/\4=r0:=fun h h' h2=>⟨by rw [eb,if_pos h,if_pos (hcan.1 h'),if_pos h2],by rw [er,if_pos h,if_pos (hcan.1 h'),if_pos h2]⟩
 have w4:c=true->m=0->¬ 1000 < n->o=b0/\0=r0:=fun h h' h2=>⟨by rw [eb,if_pos h,if_pos (hcan.1 h'),if_neg h2],by rw [er,if_pos h,if_pos (hcan.1 h'),if_neg h2]⟩
 have w5:∀ {b b':Bool} {i i':Int},b=b'/\i=i'->Value.tuple #[.bool b,.int .i64 i]=Value.tuple #[.bool b',.int .i64 i']:=fun h=>by rw [h.1,h.2]
 clear eb er hc hm ho hp hl hk hz hcan
 refine Con.of ttOk mixed Tryz.func35 {} .nil 0 (by kernel_rfl) (fun P' E hP hE=>?_)
 cbv
 refine CallTo.w hP hE kcan ⟨(by subst hE; exact Sm.of (c:=cP) tk9),trivial⟩ ?_
 cbv
 refine fork.mk ?_ ?_
 ·intro g
  have hr:=w1 (by subst hE; simpa [std] using g)
  cbv
  exact w5 hr
 ·intro g
  have c1:c=true:=by subst hE; simpa [std] using g
  cbv
  refine CallTo.w hP hE kp ⟨rfl,trivial⟩ ?_
  cbv
  refine fork.mk ?_ ?_
  ·intro g
   have hr:=w2 c1 (by subst hE; simpa [std] using g)
   cbv
   exact w5 hr
  ·intro g
   have c2:m=0:=by subst hE; simpa [std] using g
   clear g
   cbv
   refine fork.mk ?_ ?_
   ·intro g
    have hr:=w3 c1 c2 (by subst hE; rw [<-hln]; simpa [std] using g)
    cbv
    exact w5 hr
   ·intro g
    have hr:=w4 c1 c2 (by subst hE; rw [<-hln]; simpa [std] using g)
    cbv
    refine CallTo.w hP hE kodd ⟨(by subst hE; exact Sm.of (c:=cP) tk9),rfl,trivial⟩ ?_
    cbv
    exact w5 hr
theorem ringSides_con (l:List Pt) (hl:l.length<=maxLen) (p:Pt):Con Tryz.prog 5 [.ro cP l,.v p.v] (.v (.bool true)):=by
 have kg1:=great24_con l hl
 have kg3:=great1_con p
 have tka:std.tk Pt l (std.len Pt l)=l:=by rw [s_tk,s_len]; exact List.take_of_length_le (by omega)
 obtain ⟨ga,ega⟩:∃ r,r=bigG l:=⟨_,rfl⟩
 obtain ⟨gp,egp⟩:∃ r,r=bigC p:=⟨_,rfl⟩
 rw [<-ega] at kg1
 rw [<-egp] at kg3
 have hall:¬ ga=true->¬ gp=true->∃ (s e:Int) (b:Bool) (i:Int),Con Tryz.prog 30 [.ro cP l,.v p.v] (.v (.tuple #[.int .i64 s,.int .i64 e]))/\Con Tryz.prog 33 [.ro cP l,.v p.v] (.v (.tuple #[.int .i64 s,.int .i64 e])) /\
   Con Tryz.prog 34 [.ro cP l,.v p.v] (.v (.tuple #[.bool b,.int .i64 i]))/\Con Tryz.prog 35 [.ro cP l,.v p.v] (.v (.tuple #[.bool b,.int .i64 i])):=fun c1 c2=>by
  have hg:bigG l=false:=by rw [<-ega]; simpa using c1
  have il:=bigC_is hg
  have ip:=bigC_no (p:=p) (by rw [<-egp]; simpa using c2)
  have h70:l.length<=70:=by
   unfold bigG at hg
   rw [Bool.or_eq_false_iff,decide_eq_false_iff_not] at hg
   have:=hg.1
   omega
  exact ⟨_,_,_,_,inside_q il hl (by decide) (by decide) ip,yinside_q il hl (by decide) (by decide) ip,parity_q il (by omega) (by decide) ip,yparity_q il (by omega) (by decide) ip⟩
 clear ega egp hl
 refine Con.of ttOk mixed Tryz.func5 {} .nil 0 (by kernel_rfl) (fun P' E hP hE=>?_)
 cbv
 refine CallTo.w hP hE kg1 ⟨(by subst hE; exact Sm.of (c:=cP) tka),trivial⟩ ?_
 cbv
 refine fork.mk ?_ ?_
 ·intro g
  cbv
  refine awake10_c hP hE ?_
  cbv
 intro g
 have c1:¬ ga=true:=by simpa using g
 clear g
 cbv
 refine CallTo.w hP hE kg3 ⟨rfl,trivial⟩ ?_
 cbv
 refine fork.mk ?_ ?_
 ·intro g
  cbv
  refine awake10_c hP hE ?_
  cbv
 intro g
 have c2:¬ gp=true:=by simpa using g
 clear g
 cbv
 refine Exists.elim (hall c1 c2) ?_
 intro s h
 refine Exists.elim h ?_
 intro e h
 refine Exists.elim h ?_
 intro b h
 refine Exists.elim h ?_
 intro i h
 have q1:=h.1
 have q2:=h.2.1
 have q3:=h.2.2.1
 have q4:=h.2.2.2
 clear h hall
 refine CallTo.w hP hE q1 ⟨(by subst hE; exact Sm.of (c:=cP) tka),rfl,trivial⟩ ?_
 cbv
 refine CallTo.w hP hE q2 ⟨(by subst hE; exact Sm.of (c:=cP) tka),rfl,trivial⟩ ?_
 cbv
 refine CallTo.w hP hE q3 ⟨(by subst hE; exact Sm.of (c:=cP) tka),rfl,trivial⟩ ?_
 cbv
 refine CallTo.w hP hE q4 ⟨(by subst hE; exact Sm.of (c:=cP) tka),rfl,trivial⟩ ?_
 cbv
 refine forkYes (by subst hE; exact decide_eq_true rfl) ?_
 cbv
 refine forkYes (by subst hE; exact decide_eq_true rfl) ?_
 cbv
 refine forkYes (by subst hE; cases b<;>rfl) ?_
 cbv
 refine forkYes (by subst hE; exact decide_eq_true rfl) ?_
 cbv
 refine awake10_c hP hE ?_
 cbv
end Go.Proofs.YtkipmmiiackdaaaGreat.Sx
namespace Go.Proofs.YtkipmmiiackdaaaGreat.ringSides
open Go.ChangeShapes Go.WideShapes Go.ChangeAt Go.RowKit Go.Proofs.YtkipmmiiackdaaaGreat.Sx
set_option maxRecDepth 100000 in
theorem lifted (os:Os) (started:os.Started) (H:Type) (enc:TypeId × Value->H) :
  ReturnsInHanded {} Tryz.checked os 5 .any (Rows.ringSidesSpec.pre6 enc Tryz.prog Tryz.f5 Rows.ringSidesRow.domain false) (Rows.ringSidesSpec.post enc Tryz.prog Tryz.f5 false true false false):=by
 refine returnsInHanded_of_change_sized (C:=Tryz.checked) own' started (by kernel_rfl) Tryz.func5
  (ChangeSpec.witness6 (enc:=enc) (C:=Tryz.checked) false ⟨#[],#[.slice none 0 0,.agg #[.bool false,.string ByteArray.empty,.string ByteArray.empty,.bool false,.string ByteArray.empty,.string ByteArray.empty]],[]⟩ 8 (by kernel_rfl) (by kernel_rfl) (by kernel_rfl) (by kernel_rfl)) ?_
 intro W base args ds gs before hval0 hW hcnd hsz0 _
 have hval:∀ (j:Nat) t v,Tryz.f5.params[j]?=some t->args[j]?=some v->Value.okWide Tryz.prog W .any base t v:=hval0
 have hW':=hW
 obtain ⟨p,q,hA0,hV,rfl,hfz,hnd⟩:=hW
 have hA:DataW.TrodAll enc Tryz.prog W 0 (fun _=>true) true Tryz.f5.params.toList args.toList ds p:=hA0
 rw [Tryz.params5] at hA hval
 obtain ⟨v0,vs0,d0,ds0,p0,q0,hargs,rfl,rfl,h0,r0⟩:=trodAll_cons hA
 obtain ⟨v1,vs1,d1,ds1,p1,q1,rfl,rfl,rfl,h1,r1⟩:=trodAll_cons r0
 obtain ⟨rfl,rfl,rfl⟩:=trodAll_nil r1
 obtain rfl:args=#[v0,v1]:=by cases args; simp_all
 obtain ⟨rfl,rfl⟩:=trodVars_none hV
 obtain ⟨a0,o0,k0,rfl,le0,ml0,rd0⟩:=open_L (hval 0 22 v0 rfl rfl) h0
 have lt0:=trod_lt' h0
 obtain ⟨a1,rfl⟩:=open_P (hval 1 33 v1 rfl rfl) h1
 have lt1:=trod_lt' h1
 clear hA0 hval0 hsz0
 obtain ⟨_,hc⟩:=(ringSides_con a0 (Nat.le_trans le0 ml0) a1).out W #[.slice o0 a0.length k0,a1.v] (by simp only [T.ats,T.at]; exact ⟨_,_,rfl,⟨cP_ok,_,_,rfl,le0,rd0,fun _ _=>Nat.zero_le _⟩,⟨_,_,rfl,rfl,rfl⟩⟩)
 refine hc.mono fun e W' he=>?_
 obtain ⟨v,rfl,hv,bel⟩:=he
 simp only [T.at] at hv
 subst hv
 exact ⟨_,rfl,_,_,_,[],_,[],hW',trodAll_mk1 (shut_bool Tryz.underlying4 _),(trodAll_cons_mk (Below.trod laidOut' (by kernel_rfl) (of_decide_eq_true (by kernel_rfl)) h0 bel lt0) (trodAll_cons_mk (Below.trod laidOut' (by kernel_rfl) (of_decide_eq_true (by kernel_rfl)) h1 bel lt1) trodAll_mk0)),rfl,bel.frame _,fun h=>by cases h⟩
end Go.Proofs.YtkipmmiiackdaaaGreat.ringSides
namespace Go.Proofs.YtkipmmiiackdaaaGreat.Sx
open Env (std)
/-- needless' answer. -/
def needZ (l:List Pq):Int:=match needI l with
 | some i=>i
 | none => -1
structure NedI (l:List Pq) (n i:Int):Prop where
 h0:0<=i
 h1:i<=n
 no:∀ k,k < i.toNat->remAt l k=false
structure NedF (l:List Pq) (ps:List Pt) (n i a b c j:Int) (p q r:Pt) (m:Int):Prop where
 in0:0<=a/\a < (ps.length:Int)
 in1:0<=i/\i < (ps.length:Int)
 nz:n ≠ 0
 e1:std.ib .add .i64 i n=b
 e2:std.ib .rem .i64 (std.ib .sub .i64 b 1) n=a
 e3:std.ib .add .i64 i 1=j
 g0:std.get Pt ps a zQ=p
 g1:std.get Pt ps i zQ=q
 kn:Con Tryz.prog 177 [.ro cP ps,.v (.int .i64 i)] (.v r.v)
 co:Con Tryz.prog 197 [.v p.v,.v q.v,.v r.v] (.v (.int .i64 m))
 yes:q=r\/m=0->i=needZ l
 no:¬ q=r->¬ m=0->NedI l n j
 mu:(n - j).toNat < (n - i).toNat
theorem nedF_ex {k0:Nat} {l:List Pq} (hp:∀ p ∈ l,IsP k0 (crP p) p) (hl:l.length<=4096) (hk:16*k0+16<=134217728) {n i:Int} (hn:n=((l.map crP).length:Int)) (h:NedI l n i) (hi:i < n):∃ a b c j p q r m,NedF l (l.map crP) n i a b c j p q r m:=by
 have h0:=h.h0
 have hlen:(l.map crP).length=l.length:=List.length_map _
 obtain ⟨j2,r2,p2,q2,he⟩:=edgF_ex hn (by omega) h0 hi
 obtain ⟨N,hN⟩:∃ N:Nat,N=l.length:=⟨_,rfl⟩
 obtain ⟨u,hu⟩:∃ u:Nat,(u:Int)=i:=⟨i.toNat,by omega⟩
 have hNn:n=(N:Int):=by omega
 have l0:(u+N - 1) % N < N:=Nat.mod_lt _ (by omega)
 have l2:(u+1) % N < N:=Nat.mod_lt _ (by omega)
 have hm:∀ k,k < N->IsP k0 (crP (at' l k)) (at' l k):=fun k hk=>hp _ (at_mem (by omega))
 have hget:∀ k,k < N->(l.map crP).getD k zQ=crP (at' l k):=fun k hk=>by
  have:(l.map crP).take l.length=l.map crP:=List.take_of_length_le (by omega)
  exact take_get this (by omega)
 obtain ⟨m,em,km⟩:=yor_p (hm _ l0) (hm u (by omega)) (hm _ l2) (by omega)
 have er:r2.toNat=(u+1) % N:=by
  have h1:=he.rem
  have h2:=he.add
  rw [s_add,w64 (by omega) (by omega)] at h2
  rw [s_rem,Int.tmod_eq_emod_of_nonneg he.j0,hNn,<-h2,<-hu] at h1
  have e:(((u:Int)+1) % (N:Int))=(((u+1) % N:Nat):Int):=by rw [Int.natCast_emod]; congr 1
  rw [e] at h1
  omega
 have hq2:q2=crP (at' l ((u+1) % N)):=by
  have:=he.g2
  have e:std.get Pt (l.map crP) r2 zQ=(l.map crP).getD r2.toNat zQ:=rfl
  rw [e,er,hget _ l2] at this
  exact this.symm
 have hrm:remAt l u=(decide (cmpP (at' l u) (at' l ((u+1) % N))=0) || decide (m=0)):=by
  unfold remAt flatAt
  rw [<-hN,em]
 refine ⟨(((u+N - 1) % N:Nat):Int),i+n,0,i+1,crP (at' l ((u+N - 1) % N)),crP (at' l u),q2,m,⟨by omega,by omega,by omega,?_,?_,?_,?_,?_,next_q hn he,?_,?_,?_,by omega⟩⟩
 ·rw [s_add,w64 (by omega) (by omega)]
 ·rw [s_sub,w64 (by omega) (by omega),s_rem]
  have e:(i+n - 1:Int)=((u+N - 1:Nat):Int):=by omega
  rw [e,hNn]
  have:Int.tmod ((u+N - 1:Nat):Int) (N:Int)=(((u+N - 1) % N:Nat):Int):=rfl
  rw [this]
 ·rw [s_add,w64 (by omega) (by omega)]
 ·show (l.map crP).getD ((((u+N - 1) % N:Nat):Int)).toNat zQ=_
  rw [Int.toNat_natCast]; exact hget _ l0
 ·show (l.map crP).getD i.toNat zQ=_
  rw [<-hu,Int.toNat_natCast]; exact hget _ (by omega)
 ·rw [hq2]; exact km
 ·intro c
  have hf:remAt l u=true:=by
   rw [hrm,Bool.or_eq_true,decide_eq_true_iff,decide_eq_true_iff]
   rcases c with c | c
   ·rw [hq2] at c; exact .inl (cmpP_eq.2 (crP_iff.1 c))
   ·exact .inr c
  unfold needZ
  rw [need_at (by omega) (fun k hk=>h.no k (by omega)) hf]
  exact hu.symm
 ·intro c1 c2
  refine ⟨by omega,by omega,fun k hk=>?_⟩
  by_cases e:k=u
  ·rw [e,hrm,decide_eq_false (fun c=>c1 (by rw [hq2,cmpP_eq.1 c])),decide_eq_false c2]; rfl
  ·exact h.no k (by omega)
theorem needless_q {k0:Nat} {l:List Pq} (hp:∀ p ∈ l,IsP k0 (crP p) p) (hl:l.length<=4096) (hk:16*k0+16<=134217728):Con Tryz.prog 101 [.ro cP (l.map crP)] (.v (.int .i64 (needZ l))):=by
 obtain ⟨ps,hps⟩:∃ p,p=l.map crP:=⟨_,rfl⟩
 obtain ⟨r0,e0⟩:∃ r:Int,r=needZ l:=⟨_,rfl⟩
 obtain ⟨n,hn⟩:∃ n:Int,n=ps.length:=⟨_,rfl⟩
 have hln:std.len Pt ps=n:=by rw [s_len,hn]
 obtain ⟨i0,hi0⟩:∃ i:Int,i=0:=⟨_,rfl⟩
 have tk9:std.tk Pt ps (std.len Pt ps)=ps:=by rw [s_tk,s_len]; exact List.take_of_length_le (by omega)
 have hp0:NedI l n i0:=⟨by omega,by omega,fun k hk=>by rw [hi0] at hk; exact absurd hk (Nat.not_lt_zero _)⟩
 have hrnd:∀ i,NedI l n i->i < n->∃ a b c j p q r m,NedF l ps n i a b c j p q r m:=fun i h h'=>by
  rw [hps] at hn ⊢
  exact nedF_ex hp hl hk hn h h'
 have hfin:∀ i,NedI l n i->¬ i < n -> -1=r0:=fun i h h'=>by
  have h1:=h.h1
  rw [e0]; unfold needZ
  rw [need_no (fun k hk=>h.no k (by rw [hps,List.length_map] at hn; omega))]
 rw [<-hps,<-e0]
 have hyes9:∀ i,i=needZ l->i=r0:=fun i h=>by rw [e0,h]
 clear e0 hps hp hl hk
 refine Con.of ttOk mixed Tryz.func101 { ord:=[(5,[0,1,2,3,4,5,6,7,8,9,10,11,12,13,14,15,16,17,18,19,20,21,22,23,24,25,26,27])] } .nil 0 (by kernel_rfl) (fun P' E hP hE=>?_)
 cbv
 refine LoopTo.by (ι:=Int) (fun x=>[(4,.v (.int .i64 x))]) (fun x=>[]) (fun x=>NedI l n x) (fun x=>(n - x).toNat) i0 [] hp0 ?_ ?_
 ·cbv
  subst hE
  and_intros
  all_goals first
   | exact True.intro
   | rfl
   | exact vi hi0.symm
   | exact vj hi0.symm
   | (simp; done)
 ·intro i hi
  have hi:NedI l n i:=hi
  clear hp0
  cbv
  refine fork.mk ?_ ?_
  ·intro g
   have hlt:i < n:=by subst hE; rw [<-hln]; simpa [std] using g
   refine Exists.elim (hrnd i hi hlt) ?_
   intro a h
   refine Exists.elim h ?_
   intro b h
   refine Exists.elim h ?_
   intro c h
   refine Exists.elim h ?_
   intro j h
   refine Exists.elim h ?_
   intro p h
   refine Exists.elim h ?_
   intro q h
   refine Exists.elim h ?_
   intro r h
   refine Exists.elim h ?_
   intro m hf
   have in1:=hf.in1
   have e3:=hf.e3
   have hnz:std.nz .rem (std.len Pt ps):=by rw [hln]; exact hf.nz
   have in0:0<=std.ib .rem .i64 (std.ib .sub .i64 (std.ib .add .i64 i (std.len Pt ps)) 1) (std.len Pt ps)/\std.ib .rem .i64 (std.ib .sub .i64 (std.ib .add .i64 i (std.len Pt ps)) 1) (std.len Pt ps) < (ps.length:Int):=by rw [hln,hf.e1,hf.e2]; exact hf.in0
   have hg0:std.get Pt ps (std.ib .rem .i64 (std.ib .sub .i64 (std.ib .add .i64 i (std.len Pt ps)) 1) (std.len Pt ps)) zQ=p:=by rw [hln,hf.e1,hf.e2]; exact hf.g0
   have hg1:=hf.g1
   have kn:=hf.kn
   have ko:=hf.co
   have hyes:=hf.yes
   have hno:=hf.no
   have hmu:=hf.mu
   clear hf h hi hlt g
   cbv
   refine Need.mk (by subst hE; exact in1) ?_
   cbv
   refine CallTo.w hP hE kn ⟨(by subst hE; exact Sm.of (c:=cP) tk9),rfl,trivial⟩ ?_
   cbv
   refine fork.mk ?_ ?_
   ·intro g
    have c4:q=r:=by
     subst hE
     have g:eqCells (std.get Pt ps i zQ).c r.c=true:=g
     rw [hg1] at g
     exact (eqc_P q r).1 g
    have hr:=hyes9 i (hyes (Or.inl c4))
    cbv
    exact vj hr
   ·intro g
    have c4:¬ q=r:=by
     subst hE
     have g:eqCells (std.get Pt ps i zQ).c r.c=false:=g
     rw [hg1] at g
     exact fun e=>by rw [(eqc_P q r).2 e] at g; exact absurd g (by decide)
    clear g
    cbv
    refine Need.mk (by subst hE; exact hnz) ?_
    cbv
    refine Need.mk (by subst hE; exact in0) ?_
    cbv
    refine Need.mk (by subst hE; exact in1) ?_
    cbv
    refine CallTo.w hP hE kn ⟨(by subst hE; exact Sm.of (c:=cP) tk9),rfl,trivial⟩ ?_
    cbv
    refine CallTo.w hP hE ko ⟨(by subst hE; exact congrArg (fun p:Pt=>p.v) hg0),(by subst hE; exact congrArg (fun p:Pt=>p.v) hg1),rfl,trivial⟩ ?_
    cbv
    refine fork.mk ?_ ?_
    ·intro g
     have c5:m=0:=by subst hE; simpa [std] using g
     have hr:=hyes9 i (hyes (Or.inr c5))
     cbv
     exact vj hr
    ·intro g
     have c5:¬ m=0:=by subst hE; simpa [std] using g
     have hst:=hno c4 c5
     cbv
     refine ⟨j,[],hst,hmu,?_⟩
     cbv
     subst hE
     and_intros
     all_goals first
      | exact True.intro
      | rfl
      | exact vi e3
      | exact vj e3
      | (simp; done)
  ·intro g
   have hge:¬ i < n:=by subst hE; rw [<-hln]; simpa [std] using g
   have hx:=hfin i hi hge
   cbv
   exact vj hx
/-- Turned, a round: what lies behind i is turned. -/
structure TrnI (ps:List Pt) (i L:Int) (out:List Pt):Prop where
 h0 : -1<=i
 h1:i < ps.length
 eq:out=(ps.drop (i+1).toNat).reverse
 len:L=out.length
structure TrnF (ps:List Pt) (i L:Int) (out:List Pt) (j:Int) (p:Pt) (L':Int) (out':List Pt):Prop where
 in1:0<=i/\i < (ps.length:Int)
 sub:std.ib .sub .i64 i 1=j
 g1:std.get Pt ps i zQ=p
 app:std.app Pt (std.tk Pt out L) [p]=out'
 fit:std.fits (std.ad L (std.len Pt [p])) 80
 len:std.ad L (std.len Pt [p])=L'
 inv:TrnI ps j L' out'
 mu:(j+1).toNat < (i+1).toNat
theorem trnF_ex {ps:List Pt} (hl:ps.length<=4096) {i L:Int} {out:List Pt} (h:TrnI ps i L out) (hi:0<=i):∃ j p L' out',TrnF ps i L out j p L' out':=by
 have h1:=h.h1
 have hlen:=h.len
 have hol:out.length<=4096:=by rw [h.eq,List.length_reverse,List.length_drop]; omega
 have hb:i.toNat < ps.length:=by omega
 have e1:(i - 1+1).toNat=i.toNat:=by omega
 have e2:(i+1).toNat=i.toNat+1:=by omega
 refine ⟨i - 1,ps.getD i.toNat zQ,L+1,out++[ps.getD i.toNat zQ],⟨hi,h1⟩,by rw [s_sub,w64 (by omega) (by omega)],rfl,by rw [s_app,s_tk,List.take_of_length_le (by omega)],?_,rfl,⟨by omega,by omega,?_,by rw [hlen]; simp⟩,by omega⟩
 ·rw [s_fits]
  show 0<=L+1/\L+1<=_/\(L+1)*80<=_
  omega
 ·have e3:ps.drop i.toNat=ps.getD i.toNat zQ::ps.drop (i.toNat+1):=by
   rw [List.drop_eq_getElem_cons hb,List.getD_eq_getElem?_getD,List.getElem?_eq_getElem hb]; rfl
  rw [e1,e3,List.reverse_cons,h.eq,e2]
theorem yturned_q {ps:List Pt} (h1:1<=ps.length) (hl:ps.length<=4096):Con Tryz.prog 104 [.ro cP ps] (.own 33 cP ps.reverse):=by
 obtain ⟨rs,hrs⟩:∃ r,r=ps.reverse:=⟨_,rfl⟩
 rw [<-hrs]
 obtain ⟨n,hn⟩:∃ n:Int,n=ps.length:=⟨_,rfl⟩
 have hln:std.len Pt ps=n:=by rw [s_len,hn]
 obtain ⟨i0,hi0⟩:∃ i:Int,i=n - 1:=⟨_,rfl⟩
 have hi0E:std.ib .sub .i64 (std.len Pt ps) 1=i0:=by rw [hln,s_sub,w64 (by omega) (by omega),hi0]
 obtain ⟨l0,hl0⟩:∃ i:Int,i=0:=⟨_,rfl⟩
 obtain ⟨o0,ho0⟩:∃ l:List Pt,l=[]:=⟨_,rfl⟩
 have hp0:TrnI ps i0 l0 o0:=⟨by omega,by omega,by rw [ho0,List.drop_of_length_le (by omega)]; rfl,by rw [hl0,ho0]; rfl⟩
 have hrnd:∀ i L out,TrnI ps i L out->0<=i->∃ j p L' out',TrnF ps i L out j p L' out':=fun i L out h h'=>trnF_ex hl h h'
 have hfin:∀ i L out,TrnI ps i L out->¬ 0<=i->std.tk Pt out L=rs:=fun i L out h h'=>by
  have h0:=h.h0
  have e:(i+1).toNat=0:=by omega
  have e2:=h.eq
  rw [e,List.drop_zero] at e2
  rw [s_tk,List.take_of_length_le (by have:=h.len; omega),e2,hrs]
 clear hrs hi0
 refine Con.of ttOk mixed Tryz.func104 {} .nil 0 (by kernel_rfl) (fun P' E hP hE=>?_)
 cbv
 refine LoopTo.nil 3 33 cP cP_ok rfl ?_
 refine LoopTo.by (ι:=Int × Int × List Pt) (fun x=>[(3,.s 1 x.2.1),(4,.v (.int .i64 x.1))]) (fun x=>[(1,.row true 33 cP x.2.2)]) (fun x=>TrnI ps x.1 x.2.1 x.2.2) (fun x=>(x.1+1).toNat) (i0,l0,o0) [] hp0 ?_ ?_
 ·cbv
  subst hE
  and_intros
  all_goals first
   | exact True.intro
   | rfl
   | exact vi hi0E
   | exact vj hi0E
   | exact congrArg (fun x=>AV.s 1 x) hl0.symm
   | exact Sm.of ho0.symm
   | (intro h; cases h; done)
   | (simp [hl0]; done)
 ·rintro ⟨i,L,out⟩ hi
  have hi:TrnI ps i L out:=hi
  clear hp0
  cbv
  refine fork.mk ?_ ?_
  ·intro g
   have hlt:0<=i:=by subst hE; simpa [std] using g
   refine Exists.elim (hrnd i L out hi hlt) ?_
   intro j h
   refine Exists.elim h ?_
   intro p h
   refine Exists.elim h ?_
   intro L' h
   refine Exists.elim h ?_
   intro out' hf
   have in1:=hf.in1
   have hsub:=hf.sub
   have hg1:=hf.g1
   have happ:std.app Pt (std.tk Pt out L) [std.get Pt ps i zQ]=out':=by rw [hg1]; exact hf.app
   have hfit:=hf.fit
   have hlen9:=hf.len
   have hinv:=hf.inv
   have hmu:=hf.mu
   clear hf h hi g hlt hfin hrnd
   cbv
   refine Need.mk (by subst hE; exact in1) ?_
   cbv
   refine Need.mk (by subst hE; exact hfit) ?_
   cbv
   refine ⟨(j,L',out'),[0,3],hinv,hmu,?_⟩
   cbv
   subst hE
   and_intros
   all_goals first
    | exact True.intro
    | rfl
    | exact vi hsub
    | exact vj hsub
    | exact congrArg (fun x=>AV.s 3 x) hlen9
    | exact Sm.of happ
    | (simp; done)
    | (intro h; cases h; done)
  ·intro g
   have hge:¬ 0<=i:=by subst hE; simpa [std] using g
   have hM:=hfin i L out hi hge
   cbv
   subst hE
   exact Sm.of (c:=cP) hM
def oP {ι:Type} (p:ι->Prop):Option ι->Prop
 | none=>True
 | some i=>p i
def oM {ι:Type} (μ:ι->Nat) (big:Nat):Option ι->Nat
 | none=>big
 | some i=>μ i
def oS {ι:Type} (s:St) (c:Code) (chg:ι->List (Nat × AV)) (hc:ι->List (Nat × Blk)):Option ι->St
 | none=>s
 | some i=>s.upd c (chg i) (hc i)
theorem LoopTo.by2 {ι:Type} {P:Program} {m:Nat} {c:Unit->Code} {B:Unit->(X->St->Prop)->St->Prop} {K:X->St->Prop} {s:St} (chg:ι->List (Nat × AV)) (hc:ι->List (Nat × Blk)) (p:ι->Prop) (μ:ι->Nat) (big:Nat) (hle:St.le m [] s s)
  (h0:B () (fun x s'=>match x with
   | .n=>∃ j r,oP p j/\oM μ big j < big/\St.le m r s' (oS s (c ()) chg hc j)
   | x=>K x s') s)
  (hb:∀ i,p i->B () (fun x s'=>match x with
   | .n=>∃ j r,oP p j/\oM μ big j < μ i/\St.le m r s' (oS s (c ()) chg hc j)
   | x=>K x s') (s.upd (c ()) (chg i) (hc i))):LoopTo P m c B K s:=
 LoopTo.inv (oS s (c ()) chg hc) (oP p) (oM μ big) none [] trivial hle (fun o ho=>match o,ho with
  | none,_=>h0
  | some i,ho=>hb i ho)
/-- The list that is left, in a row of its own. -/
structure RfI (A:List Pq) (L:Int) (zs:List Pt) (l:List Pq):Prop where
 len:L=zs.length
 eq:zs=l.map crP
 le:l.length<=A.length
 si:simpQ l=simpQ A
 sub:∀ p ∈ l,p ∈ A
/-- The copy without point i. -/
structure CpI (l:List Pq) (i k M:Int) (out:List Pt):Prop where
 h0:0<=k
 h1:k<=l.length
 eq:out=((l.take k.toNat).eraseIdx i.toNat).map crP
 len:M=out.length
structure CpF (l:List Pq) (zs:List Pt) (L i k M:Int) (out:List Pt) (k':Int):Prop where
 in1:0<=k/\k < L
 add:std.ib .add .i64 k 1=k'
 yes:k=i->CpI l i k' M out
 no:¬ k=i->∃ M' out',std.app Pt (std.tk Pt out M) [std.get Pt zs k zQ]=out'/\std.fits (std.ad M (std.len Pt [std.get Pt zs k zQ])) 80/\std.ad M (std.len Pt [std.get Pt zs k zQ])=M'/\CpI l i k' M' out'
 mu:(L - k').toNat < (L - k).toNat
theorem mpc_get {l:List Pq} {u:Nat} (h:u < l.length):(l.map crP).getD u zQ=crP (at' l u):=take_get (l:=l) (List.take_of_length_le (by rw [List.length_map]; exact Nat.le_refl _)) h
theorem cpF_ex {l:List Pq} {zs:List Pt} {L i k M:Int} {out:List Pt} (hz:zs=l.map crP) (hL:L=l.length) (hl:l.length<=4096) (hi:0<=i) (h:CpI l i k M out) (hk:k < L):∃ k',CpF l zs L i k M out k':=by
 have h0:=h.h0
 have h2:=h.len
 have hu:k.toNat < l.length:=by omega
 have e1:(k+1).toNat=k.toNat+1:=by omega
 have ht:l.take (k.toNat+1)=l.take k.toNat++[at' l k.toNat]:=by
  rw [List.take_add_one,List.getElem?_eq_getElem hu]
  unfold at'
  rw [List.getD_eq_getElem?_getD,List.getElem?_eq_getElem hu]; rfl
 have htl:(l.take k.toNat).length=k.toNat:=by rw [List.length_take]; omega
 have hol:out.length<=4096:=by
  have:=List.length_eraseIdx_le (l.take k.toNat) i.toNat
  rw [h.eq,List.length_map]; omega
 have hg:std.get Pt zs k zQ=crP (at' l k.toNat):=by
  show zs.getD k.toNat zQ=_
  rw [hz]; exact mpc_get hu
 refine ⟨k+1,⟨⟨h0,hk⟩,by rw [s_add,w64 (by omega) (by omega)],fun c=>⟨by omega,by omega,?_,h2⟩,fun c=>⟨M+1,out++[crP (at' l k.toNat)],?_,?_,rfl,⟨by omega,by omega,?_,by rw [h2]; simp⟩⟩,by omega⟩⟩
 ·subst c
  rw [h.eq,e1,ht,List.eraseIdx_append_of_length_le (by omega),htl,Nat.sub_self,List.eraseIdx_of_length_le (by omega),List.eraseIdx_cons_zero,List.append_nil]
 ·rw [hg,s_app,s_tk,List.take_of_length_le (by omega)]
 ·rw [s_fits]
  show 0<=M+1/\M+1<=_/\(M+1)*80<=_
  omega
 ·rw [h.eq,e1,ht]
  by_cases hlt:i < k
  ·rw [List.eraseIdx_append_of_lt_length (by omega),List.map_append]; rfl
  ·rw [List.eraseIdx_of_length_le (by omega),List.eraseIdx_of_length_le (by rw [List.length_append,htl]; simp only [List.length_cons,List.length_nil]; omega),List.map_append]; rfl
theorem cp_done {A l:List Pq} {i k M L:Int} {zs out:List Pt} (hR:RfI A L zs l) (h3:3<=L) (h:CpI l i k M out) (hz:i=needZ l) (hi:0<=i) (hk:¬ k < L):RfI A M out (l.eraseIdx i.toNat)/\(l.eraseIdx i.toNat).length < l.length:=by
 have hLl:L=l.length:=by rw [hR.len,hR.eq,List.length_map]
 have h1:=h.h1
 have hn:needI l=some i.toNat:=by
  unfold needZ at hz
  cases e:needI l with
  | none=>rw [e] at hz; simp only at hz; omega
  | some u=>rw [e] at hz; simp only at hz; rw [hz,Int.toNat_natCast]
 have hlt:=need_lt hn
 have hle:=hR.le
 have hel:(l.eraseIdx i.toNat).length=l.length - 1:=by rw [List.length_eraseIdx,if_pos hlt]
 refine ⟨⟨h.len,?_,by omega,(simpQ_some (by omega) hn).trans hR.si,fun p hp=>hR.sub p (List.mem_of_mem_eraseIdx hp)⟩,by omega⟩
 rw [h.eq,List.take_of_length_le (by omega)]
/-- No point is to be removed any more. -/
theorem rem_no {l:List Pq} (h:needI l=none):∀ i,i < l.length->remAt l i=false:=by
 intro i hi
 unfold needI at h
 rw [List.find?_eq_none] at h
 have:=h i (by simpa using hi)
 simpa using this
theorem rem_nd {l:List Pq} (h:needI l=none):∀ i,i < l.length->(edgeQ l i).a ≠ (edgeQ l i).b:=by
 intro i hi c
 have h1:=rem_no h i hi
 unfold remAt at h1
 rw [Bool.or_eq_false_iff,decide_eq_false_iff_not] at h1
 exact h1.1 (cmpP_eq.2 c)
theorem needZ_no {l:List Pq} (h:¬ 0<=needZ l):needI l=none:=by
 unfold needZ at h
 cases e:needI l with
 | none=>rfl
 | some u=>rw [e] at h; simp only at h; omega
theorem rot_get (O:List Pq) (k i:Nat) (hk:k < O.length) (hi:i < O.length):(O.drop k++O.take k)[i]?=O[(k+i) % O.length]?:=by
 by_cases h:i < O.length - k
 ·rw [List.getElem?_append_left (by rw [List.length_drop]; exact h),List.getElem?_drop,Nat.mod_eq_of_lt (by omega)]
 ·rw [List.getElem?_append_right (by rw [List.length_drop]; omega),List.length_drop,List.getElem?_take,if_pos (by omega),Nat.mod_eq_sub_mod (by omega),Nat.mod_eq_of_lt (by omega)]
  congr 1; omega
/-- The ring, from its least vertex on, as far as it is built. -/
structure BlI (O:List Pq) (i M:Int) (out:List Pt):Prop where
 h0:0<=i
 h1:i<=O.length
 eq:out=((rotQ O).take i.toNat).map crP
 len:M=out.length
structure BlF (O:List Pq) (zs:List Pt) (L f i M:Int) (out:List Pt) (a r j M':Int) (p:Pt) (out':List Pt):Prop where
 nz:L ≠ 0
 e1:std.ib .add .i64 f i=a
 e2:std.ib .rem .i64 a L=r
 in1:0<=r/\r < L
 g1:std.get Pt zs r zQ=p
 app:std.app Pt (std.tk Pt out M) [p]=out'
 fit:std.fits (std.ad M (std.len Pt [p])) 80
 len:std.ad M (std.len Pt [p])=M'
 add:std.ib .add .i64 i 1=j
 inv:BlI O j M' out'
 mu:(L - j).toNat < (L - i).toNat
theorem rotQ_len (O:List Pq):(rotQ O).length=O.length:=by
 unfold rotQ
 rw [List.length_append,List.length_drop,List.length_take]; omega
theorem blF_ex {O:List Pq} {zs:List Pt} {L f i M:Int} {out:List Pt} (hz:zs=O.map crP) (hL:L=O.length) (hl:O.length<=4096) (hf:f=(firstI O:Nat)) (h:BlI O i M out) (hi:i < L):∃ a r j M' p out',BlF O zs L f i M out a r j M' p out':=by
 have h0:=h.h0
 have h2:=h.len
 have hu:i.toNat < O.length:=by omega
 have hfl:=firstI_lt (l:=O) (by omega)
 obtain ⟨u,hu0⟩:∃ u:Nat,i=u:=⟨i.toNat,by omega⟩
 have eu:i.toNat=u:=by omega
 have e1:(i+1).toNat=u+1:=by omega
 have hm:(firstI O+u) % O.length < O.length:=Nat.mod_lt _ (by omega)
 have hol:out.length<=4096:=by rw [h.eq,List.length_map,List.length_take,rotQ_len]; omega
 have ht:(rotQ O).take (u+1)=(rotQ O).take u++[at' O ((firstI O+u) % O.length)]:=by
  have:=rot_get O (firstI O) u hfl (by omega)
  rw [List.take_add_one]
  unfold rotQ
  rw [this,List.getElem?_eq_getElem hm]
  unfold at'
  rw [List.getD_eq_getElem?_getD,List.getElem?_eq_getElem hm]; rfl
 refine ⟨f+i,(((firstI O+u) % O.length:Nat):Int),i+1,M+1,crP (at' O ((firstI O+u) % O.length)),out++[crP (at' O ((firstI O+u) % O.length))],⟨by omega,by rw [s_add,w64 (by omega) (by omega)],?_,by omega,?_,?_,?_,rfl,by rw [s_add,w64 (by omega) (by omega)],⟨by omega,by omega,?_,by rw [h2]; simp⟩,by omega⟩⟩
 ·rw [s_rem,hf,hu0,hL,<-Int.natCast_add]; rfl
 ·show zs.getD (((firstI O+u) % O.length:Nat):Int).toNat zQ=_
  rw [Int.toNat_natCast,hz]; exact mpc_get hm
 ·rw [s_app,s_tk,List.take_of_length_le (by omega)]
 ·rw [s_fits]
  show 0<=M+1/\M+1<=_/\(M+1)*80<=_
  omega
 ·rw [h.eq,eu,e1,ht,List.map_append]; rfl
theorem bl_done {O:List Pq} {L i M:Int} {out:List Pt} (hL:L=O.length) (h:BlI O i M out) (hi:¬ i < L):std.tk Pt out M=(rotQ O).map crP:=by
 have h1:=h.h1
 rw [s_tk,List.take_of_length_le (by have:=h.len; omega),h.eq,List.take_of_length_le (by rw [rotQ_len]; omega)]
/-- A round: needless answers z. -/
structure RfR (l:List Pq) (L:Int) (zs:List Pt) (z:Int):Prop where
 kn:Con Tryz.prog 101 [.ro cP zs] (.v (.int .i64 z))
 z:z=needZ l
 tk:std.tk Pt zs L=zs
/-- What comes behind the loop. -/
structure RfE (l:List Pq) (zs:List Pt) (re:Int) (rs0:List Pt) (xb:Bool) (ar:R) (m f1 f2:Int) (rv:List Pt):Prop where
 kx:Con Tryz.prog 102 [.ro cP zs] (.v (.bool xb))
 x13:xb=true->13=re
 re0:¬ xb=true->0=re
 ka:Con Tryz.prog 85 [.ro cP zs] (.v ar.v)
 ks:Con Tryz.prog 103 [.v ar.v] (.v (.int .i64 m))
 kt:Con Tryz.prog 104 [.ro cP zs] (.own 33 cP rv)
 tr:std.tk Pt rv (std.len Pt rv)=rv
 rl:std.len Pt rv=(l.length:Int)
 er:rv=l.reverse.map crP
 k1:Con Tryz.prog 105 [.ro cP zs] (.v (.int .i64 f1))
 k2:Con Tryz.prog 105 [.ro cP rv] (.v (.int .i64 f2))
 e1:f1=(firstI l:Nat)
 e2:f2=(firstI l.reverse:Nat)
 neg:m < 0->rs0=(rotQ l.reverse).map crP
 pos:¬ m < 0->rs0=(rotQ l).map crP
theorem rfE_ex {k:Nat} {c:Bool} {A l:List Pq} {zs:List Pt} (hp:∀ p ∈ A,IsP k (crP p) p) (hc:c=true) (h64:¬ 64 < A.length) (hk:40960*k+40960<=134217728) (hk1:1<=k) (hz:zs=l.map crP) (hl:l=simpQ A) (hno:needI l=none) (h3:¬ l.length < 3):∃ xb ar m f1 f2 rv,RfE l zs (canE c A) ((canQ A).map crP) xb ar m f1 f2 rv:=by
 have hlen:l.length<=64:=by have:=simpQ_len A; rw [hl]; omega
 have hb:∀ p ∈ l,BdP k p:=fun p h=>(hp p (by rw [hl] at h; exact simpQ_sub h)).b
 have hi:∀ p ∈ l.map crP,IsP k p p.q:=fun p h=>by
  obtain ⟨x,hx,rfl⟩:=List.mem_map.1 h
  have e:(crP x).q=x:=by show (⟨(cr x.x).q,(cr x.y).q⟩:Pq)=x; rw [cr_q,cr_q]
  rw [e]; exact (hb x hx).is
 have hi2:∀ p ∈ l.reverse.map crP,IsP k p p.q:=fun p h=>by
  rw [List.map_reverse,List.mem_reverse] at h; exact hi p h
 have kx:=ycrossing_q hi (by rw [List.length_map]; omega) (show 16*k+16<=134217728 by omega) (by rw [map_q,List.length_map]; exact rem_nd hno)
 have ka:=yarea_q hi (by rw [List.length_map]; omega) hk hk1
 have k1:=least_q hi (by rw [List.length_map]; omega) (by rw [List.length_map]; omega) (show 2*k<=134217728 by omega)
 have k2:=least_q hi2 (by rw [List.length_map,List.length_reverse]; omega) (by rw [List.length_map,List.length_reverse]; omega) (show 2*k<=134217728 by omega)
 have kt:=yturned_q (ps:=l.map crP) (by rw [List.length_map]; omega) (by rw [List.length_map]; omega)
 rw [map_q] at kx ka k1 k2
 rw [<-List.map_reverse] at kt
 have ks:=xsign_q (area_bd (l:=l) (by omega) hb hk1).is (by omega)
 have hE:canE c A=if crossB (simpQ A)=true then 13 else 0:=by
  rw [canE,if_neg h64,if_neg (by rw [hc]; decide),if_neg (by rw [<-hl]; exact h3)]
 refine ⟨_,_,_,_,_,l.reverse.map crP,by rw [hz]; exact kx,fun h=>?_,fun h=>?_,by rw [hz]; exact ka,ks,by rw [hz]; exact kt,?_,?_,rfl,by rw [hz]; exact k1,k2,rfl,rfl,fun h=>?_,fun h=>?_⟩
 ·rw [hE,if_pos (by rw [<-hl]; exact h)]
 ·rw [hE,if_neg (by rw [<-hl]; exact h)]
 ·rw [s_tk,s_len]; exact List.take_of_length_le (by omega)
 ·rw [s_len,List.length_map,List.length_reverse]
 ·rw [canQ,turnQ,<-hl,if_pos h]
 ·rw [canQ,turnQ,<-hl,if_neg h]
end Go.Proofs.YtkipmmiiackdaaaGreat.Sx
