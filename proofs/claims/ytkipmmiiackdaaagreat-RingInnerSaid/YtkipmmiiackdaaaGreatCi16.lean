/- Part 16 of what the statement needs: an executor of Go texts, arithmetic, and contracts of the functions that are called. -/
import Derived.Test.YtkipmmiiackdaaaGreatCi11
import Derived.Test.YtkipmmiiackdaaaGreatCi15
set_option linter.unusedSimpArgs false
set_option linter.unusedVariables false
set_option maxHeartbeats 8000000
set_option maxRecDepth 100000
namespace Go.Proofs.YtkipmmiiackdaaaGreat.Sx
open Env (std)
theorem LoopTo.invQ {ι κ:Type} {P:Program} {m:Nat} {c:Unit->Code} {B:Unit->(X->St->Prop)->St->Prop} {K:X->St->Prop} {s:St} (I:ι->St) (J:κ->St) (p:ι->Prop) (q:κ->Prop) (μ:ι->Nat) (i0:ι) (r0:List Nat) (n:Nat) (hp:p i0) (h0:St.le m r0 s (I i0))
  (hk:∀ k,q k->K (.e n) (J k))
  (hb:∀ i,p i->B () (fun x s'=>match x with
   | .n=>∃ j r,p j/\μ j < μ i/\St.le m r s' (I j)
   | .e n'=>n'=n/\∃ k r,q k/\St.le m r s' (J k)
   | .r=>K .r s'
   | .g l=>K (.g l) s') (I i)):LoopTo P m c B K s:=by
 refine ⟨fun ro hB w0 β0 β M a w ht hw hx=>?_⟩
 refine wpIn_mono ((LoopTo.inv (K:=fun x s'=>match x with
   | .n=>K .n s'
   | .e n'=>n'=n/\∃ k r,q k/\St.le m r s' (J k)
   | .r=>K .r s'
   | .g l=>K (.g l) s') I p μ i0 r0 hp h0 (fun i hi=>by
    have h:=hb i hi
    exact Eq.mp (congrArg (fun F=>B () F (I i)) (funext fun x=>funext fun s'=>by cases x<;>rfl)) h)).out ro hB w0 β0 β M a w ht hw hx) (fun e a w hq=>?_)
 cases e with
 | normal=>exact hq
 | ret=>exact hq
 | exit j=>
  obtain ⟨s',β',M',h1,h2,h3,rfl,k,r,h4,h5⟩:=hq
  obtain ⟨q1,q2,q3⟩:=St.le_rel h5 h1 h2 h3
  exact ⟨J k,_,M',q1,q2,q3,hk k h4⟩
 | _=>exact hq
/-- As LoopTo.by; the round may also end with the exit n, in a state of the second sort. -/
theorem LoopTo.byQ {ι κ:Type} {P:Program} {m:Nat} {c:Unit->Code} {B:Unit->(X->St->Prop)->St->Prop} {K:X->St->Prop} {s:St} (chg:ι->List (Nat × AV)) (hc:ι->List (Nat × Blk)) (chq:κ->List (Nat × AV)) (hq:κ->List (Nat × Blk)) (p:ι->Prop) (q:κ->Prop) (μ:ι->Nat) (i0:ι) (r0:List Nat) (n:Nat) (hp:p i0) (h0:St.le m r0 s (s.upd (c ()) (chg i0) (hc i0)))
  (hb:∀ i,p i->B () (fun x s'=>match x with
   | .n=>∃ j r,p j/\μ j < μ i/\St.le m r s' (s.upd (c ()) (chg j) (hc j))
   | .e n'=>n'=n/\∃ k r,q k/\St.le m r s' (s.upd (c ()) (chq k) (hq k))
   | .r=>K .r s'
   | .g l=>K (.g l) s') (s.upd (c ()) (chg i) (hc i)))
  (hk:∀ k,q k->K (.e n) (s.upd (c ()) (chq k) (hq k))):LoopTo P m c B K s:=
 LoopTo.invQ (fun i=>s.upd (c ()) (chg i) (hc i)) (fun k=>s.upd (c ()) (chq k) (hq k)) p q μ i0 r0 n hp h0 hk hb
/-- The rest behind a label, answered by an invariant that holds at each jump. -/
theorem ScopeTo.inv {ι:Type} {P:Program} {m l:Nat} {c:Unit->Code} {B:Unit->(X->St->Prop)->St->Prop} {K:X->St->Prop} {s:St} (I:ι->St) (p:ι->Prop) (μ:ι->Nat) (i0:ι) (r0:List Nat) (hp:p i0) (h0:St.le m r0 s (I i0))
  (hb:∀ i,p i->B () (fun x s'=>match x with
   | .g l'=>l'=l/\∃ j r,p j/\μ j < μ i/\St.le m r s' (I j)
   | x=>K x s') (I i)):ScopeTo P m l c B K s:=by
 refine ⟨fun hB cc hf w0 β0 β M a w ht hw hx=>?_⟩
 have key:∀ k i (β:Nat->Loc) M a w,p i->μ i < k->RelT (M.map mark) β (I i).h.length (I i).t a->RelW (w0.add M) β (I i).h w->Ext m β0 (I i).h β->(c ()).wpIn (fen none) 0 P (JmpIn (fen none) 0 P cc (.seq .skip (c ())) l (QQ w0 m β0 K)) a w:=by
  intro k
  induction k with
  | zero=>intro i β M a w _ h; omega
  | succ k ih=>
   intro i β M a w hpi hlt ht hw hx
   refine wpIn_mono (hB w0 β0 _ (I i) β M a w (hb i hpi) ht hw hx) (fun e a w hq=>?_)
   cases e with
   | goto l'=>
    obtain ⟨s',β',M',h1,h2,h3,h4,j,r,h5,h6,h7⟩:=hq
    obtain ⟨q1,q2,q3⟩:=St.le_rel h7 h1 h2 h3
    refine ⟨h4,?_⟩
    intro b k cs hro hbf hbr
    have hb0:b.roundOf=none:=hro
    have hn:=ih j _ M' a w h5 (by omega) q1 q2 q3
    have hn2:(Code.seq .skip (c ())).wpIn (fen none) 0 P (JmpIn (fen none) 0 P cc (.seq .skip (c ())) l (QQ w0 m β0 K)) a w:=wpIn_seq (wpIn_skip hn)
    have hg:gotoIn l (.inScope cc::k)=some (.code (.seq .skip (c ()))::.inScope cc::k):=by simp [gotoIn,hf]
    obtain ⟨e,a₁,w₁,hq,harr⟩:=hn2 b (.inScope cc::k) cs hro hbf hbr
    cases e with
    | normal=>
     have s2:step P (lone (b.atR a₁ (.inScope cc::k)) cs w₁)=.next (lone (b.atR a₁ k) cs w₁):=by
      simp only [Frame.atR_of_none hb0]; exact step_inScope
     exact ⟨.normal,a₁,w₁,hq,StepsIn.trans harr (.one (fenced_calm hbf hbr rfl) s2)⟩
    | exit id=>
     have hx:exitTo id (.inScope cc::k)=exitTo id k:=by simp [exitTo]
     exact ⟨.exit id,a₁,w₁,hq,fun k' hk=>harr.1 k' (by rw [hx]; exact hk),fun hr' hk=>harr.2 hr' (by rw [hx]; exact hk)⟩
    | goto l'=>
     obtain ⟨rfl,hre⟩:=hq
     obtain ⟨e₂,a₂,w₂,hq₂,harr₂⟩:=hre b k cs hro hbf hbr
     exact ⟨e₂,a₂,w₂,hq₂,.of_steps (harr.1 _ hg) harr₂⟩
    | ret=>exact ⟨.ret,a₁,w₁,hq,harr⟩
    | panic ch=>exact ⟨.panic ch,a₁,w₁,hq,harr⟩
    | outgrown=>exact ⟨.outgrown,a₁,w₁,hq,harr⟩
   | normal=>exact hq
   | exit j=>exact hq
   | ret=>exact hq
   | _=>exact hq
 obtain ⟨q1,q2,q3⟩:=St.le_rel h0 ht hw hx
 exact key (μ i0+1) _ _ M a w hp (by omega) q1 q2 q3
/-- As LoopTo.by: which slots and blocks are told of. -/
theorem ScopeTo.by {ι:Type} {P:Program} {m l:Nat} {c:Unit->Code} {B:Unit->(X->St->Prop)->St->Prop} {K:X->St->Prop} {s:St} (chg:ι->List (Nat × AV)) (hc:ι->List (Nat × Blk)) (p:ι->Prop) (μ:ι->Nat) (i0:ι) (r0:List Nat) (hp:p i0) (h0:St.le m r0 s (s.upd (c ()) (chg i0) (hc i0)))
  (hb:∀ i,p i->B () (fun x s'=>match x with
   | .g l'=>l'=l/\∃ j r,p j/\μ j < μ i/\St.le m r s' (s.upd (c ()) (chg j) (hc j))
   | x=>K x s') (s.upd (c ()) (chg i) (hc i))):ScopeTo P m l c B K s:=
 ScopeTo.inv (fun i=>s.upd (c ()) (chg i) (hc i)) p μ i0 r0 hp h0 hb
/-- All ends of a drawn region are told as one sort of state. -/
theorem DrawTo.merge {κ:Type} {P:Program} {m:Nat} {c:Unit->Code} {B:Unit->(X->St->Prop)->Prop} {K:X->St->Prop} {s:St} (J:κ->St) (q:κ->Prop)
  (hb:B () (fun x s'=>match x with
   | .n=>∃ k r,q k/\St.le m r s' (J k)
   | x=>K x s'))
  (hk:∀ k,q k->K .n (J k)):DrawTo P m c B K s:=by
 refine ⟨fun ro hB w0 β0 β M a w ht hw hx=>?_⟩
 refine wpIn_mono (hB w0 β0 _ β M a w hb ht hw hx) (fun e a w hq=>?_)
 cases e with
 | normal=>
  obtain ⟨s',β',M',h1,h2,h3,k,r,h4,h5⟩:=hq
  obtain ⟨q1,q2,q3⟩:=St.le_rel h5 h1 h2 h3
  exact ⟨J k,_,M',q1,q2,q3,hk k h4⟩
 | ret=>exact hq
 | exit j=>exact hq
 | _=>exact hq
theorem divide_lt (a d:Nat) (h:a < d) (ha:(lb a).length<=137438953472) (hd:(lb d).length<=137438953472):Con Tryz.prog 281 [.ro cU (lb a),.ro cU (lb d)] (.tup [.ro cU [],.arg 0 (lb a).length]):=by
 have hc:=compare_con a d ha hd
 have hcc:cmpI a d = -1:=by rw [cmpI,if_pos (by omega)]
 rw [hcc] at hc
 obtain ⟨xs,hxs⟩:∃ x,x=lb a:=⟨_,rfl⟩
 obtain ⟨ys,hys⟩:∃ x,x=lb d:=⟨_,rfl⟩
 rw [<-hxs,<-hys] at hc
 rw [<-hxs,<-hys]
 obtain ⟨n,hn⟩:∃ x:Int,x=xs.length:=⟨_,rfl⟩
 rw [<-hn]
 refine Con.of ttOk mixed Tryz.func281 {} .nil 0 (by kernel_rfl) (fun P' E hP hE=>?_)
 clear hxs hys ha hd
 have hlx:std.tk Int xs (std.len Int xs)=xs:=by rw [s_tk,s_len,List.take_of_length_le (by omega)]
 have hly:std.tk Int ys (std.len Int ys)=ys:=by rw [s_tk,s_len,List.take_of_length_le (by omega)]
 have hnn:std.len Int xs=n:=hn.symm
 cbv
 refine CallTo.con hP hE hc (by subst hE; exact ⟨Sm.of hlx,Sm.of hly,trivial⟩) ?_
 cbv
 refine ⟨fun h1=>?_,fun h1=>?_⟩
 ·cbv
  subst hE
  exact ⟨cInt_ok .u32,hnn,trivial⟩
 ·exfalso
  subst hE
  have h:std.ic .lss (-1) 0=false:=h1
  simp at h
theorem len_lb_one {d:Nat} (h:(lb d).length=1):0 < d/\d < 4294967296/\(lb d).getD 0 0=d:=by
 have h1:=val_lb d
 have h2:=lb_lt d
 have h3:d ≠ 0:=fun c=>by rw [c,lb_zero] at h; simp at h
 rw [h] at h2
 match hl:lb d,h with
 | [x],_=>
  rw [hl] at h1
  simp only [val] at h1
  exact ⟨by omega,by omega,by show x=_; omega⟩
theorem divide_one (a d:Nat) (h:d<=a) (ha:(lb a).length<=137438953472) (hd:(lb d).length=1):Con Tryz.prog 281 [.ro cU (lb a),.ro cU (lb d)] (.tup [.ro cU (lb (a / d)),.ro cU (lb (a % d))]):=by
 obtain ⟨d0,d1,d2⟩:=len_lb_one hd
 have hc:=compare_con a d ha (by omega)
 have hs:=short_con a d ha d0 d1
 obtain ⟨c,hcc⟩:∃ c,c=cmpI a d:=⟨_,rfl⟩
 have hc0:0<=c:=by rw [hcc,cmpI,if_neg (by omega)]; split<;>omega
 rw [<-hcc] at hc
 obtain ⟨m,hm⟩:∃ m,m=a % d:=⟨_,rfl⟩
 have hmd:m < d:=by rw [hm]; exact Nat.mod_lt _ d0
 have hrok:Ok32 [(m:Int)]:=.cons (by omega) (by omega) .nil
 have htk:=take_tlen hrok
 have hvm:(val [(m:Int)]).toNat=m:=by show ((m:Int)+4294967296*0).toNat=m; omega
 rw [hvm] at htk
 obtain ⟨r,hr⟩:∃ r:Int,r=m:=⟨_,rfl⟩
 rw [<-hm] at hs
 rw [<-hm,<-htk]
 rw [<-hr] at hs htk ⊢
 have ht:=trim_con [r] (by simp)
 obtain ⟨n,hn⟩:∃ n,n=tlen [r]:=⟨_,rfl⟩
 rw [<-hn] at ht ⊢
 obtain ⟨w,hw⟩:∃ w,w=List.take n [r]:=⟨_,rfl⟩
 rw [<-hw]
 obtain ⟨xs,hxs⟩:∃ x,x=lb a:=⟨_,rfl⟩
 obtain ⟨ys,hys⟩:∃ x,x=lb d:=⟨_,rfl⟩
 obtain ⟨zs,hzs⟩:∃ x,x=lb (a / d):=⟨_,rfl⟩
 rw [<-hxs,<-hys] at hc
 rw [<-hxs,<-hzs] at hs
 rw [<-hxs,<-hys,<-hzs]
 rw [<-hys] at hd d2
 obtain ⟨e,he⟩:∃ e:Int,e=d:=⟨_,rfl⟩
 rw [<-he] at hs d2
 refine Con.of ttOk mixed Tryz.func281 {} .nil 0 (by kernel_rfl) (fun P' E hP hE=>?_)
 clear hxs hys hzs ha hcc htk hrok hvm hm hn
 have hlx:std.tk Int xs (std.len Int xs)=xs:=by rw [s_tk,s_len,List.take_of_length_le (by omega)]
 have hly:std.tk Int ys (std.len Int ys)=ys:=by rw [s_tk,s_len,List.take_of_length_le (by omega)]
 have hlz:std.tk Int zs (std.len Int zs)=zs:=by rw [s_tk,s_len,List.take_of_length_le (by omega)]
 have hgy:std.get Int ys 0 0=e:=d2
 have hin:std.inb 0 (std.len Int ys):=by rw [s_inb,s_len]; omega
 have hone:std.ic .eql (std.len Int ys) 1=true:=by rw [s_eql,s_len,hd]; rfl
 cbv
 refine CallTo.con hP hE hc (by subst hE; exact ⟨Sm.of hlx,Sm.of hly,trivial⟩) ?_
 cbv
 refine ⟨fun h1=>?_,fun h1=>?_⟩
 ·exfalso
  subst hE
  have h:std.ic .lss c 0=true:=h1
  simp at h
  omega
 ·cbv
  refine ⟨fun h2=>?_,fun h2=>?_⟩
  ·cbv
   refine ⟨by subst hE; exact hin,?_⟩
   cbv
   refine CallTo.con hP hE hs (by subst hE; exact ⟨Sm.of hlx,congrArg (Value.int .u32) hgy,trivial⟩) ?_
   cbv
   refine CallTo.lit (i:=0) (c:=cU) (ys:=[r]) rfl rfl (cInt_ok _) rfl rfl (by decide) ?_
   refine CallTo.con hP hE ht ?_ ?_
   ·subst hE
    exact ⟨Sm.of rfl,trivial⟩
   ·have hw':std.tk Int [r] n=w:=by rw [s_tk,Int.toNat_natCast,hw]
    cbv
    subst hE
    exact ⟨Sm.of hlz,Sm.of hw',trivial⟩
  ·exfalso
   subst hE
   have h:std.ic .eql (std.len Int ys) 1=false:=h2
   rw [hone] at h
   cases h
def dTop (vs us:List Int) (i:Int):Int:=us.getD (i.toNat+vs.length) 0*4294967296+us.getD (i.toNat+vs.length - 1) 0
def dU2 (vs us:List Int) (i:Int):Int:=us.getD (i.toNat+vs.length - 2) 0
def dV1 (vs:List Int):Int:=vs.getD (vs.length - 1) 0
def dV2 (vs:List Int):Int:=vs.getD (vs.length - 2) 0
def dQ (vs us:List Int) (i:Int):Int:=val us / (val vs*4294967296 ^ i.toNat)
structure GInv (vs us:List Int) (i g r:Int):Prop where
 q:dQ vs us i<=g
 g0:0<=g
 g1:g < 18446744073709551616
 r0:0<=r
 r1:r < 18446744073709551616
 s:g*dV1 vs+r=dTop vs us i
structure GEnd (vs us:List Int) (i g:Int):Prop where
 q:dQ vs us i<=g
 q1:g<=dQ vs us i+1
 g0:0<=g
 g1:g < 4294967296
theorem DS.v1 {vs us:List Int} {i:Int} (S:DS vs us i):1<=dV1 vs/\dV1 vs < 4294967296:=by
 obtain ⟨W,Y,p,low,vl,G,hN⟩:=S.dg
 exact ⟨G.v10,G.v11⟩
theorem DS.v2 {vs us:List Int} {i:Int} (S:DS vs us i):0<=dV2 vs/\dV2 vs < 4294967296:=S.vok.get _
theorem DS.u2 {vs us:List Int} {i:Int} (S:DS vs us i):0<=dU2 vs us i/\dU2 vs us i < 4294967296:=S.uok.get _
theorem DS.t {vs us:List Int} {i:Int} (S:DS vs us i):0<=dTop vs us i/\dTop vs us i < 18446744073709551616:=by
 obtain ⟨W,Y,p,low,vl,G,hN⟩:=S.dg
 exact ⟨G.t0,G.t1⟩
theorem DS.first {vs us:List Int} {i:Int} (S:DS vs us i):GInv vs us i (dTop vs us i / dV1 vs) (dTop vs us i % dV1 vs):=by
 have ht:=S.t
 have hv:=S.v1
 obtain ⟨W,Y,p,low,vl,G,hN⟩:=S.dg
 obtain ⟨h1,h2,h3,h4,h5⟩:=G.first
 have h6:=Int.emod_lt_of_pos (dTop vs us i) (show 0 < dV1 vs by omega)
 exact ⟨h1,h2,h3,h5,by omega,h4⟩
theorem GInv.down {vs us:List Int} {i g r:Int} (S:DS vs us i) (h:GInv vs us i g r) (hc:4294967296<=g\/r*4294967296+dU2 vs us i < g*dV2 vs):GInv vs us i (g - 1) (r+dV1 vs):=by
 have ht:=S.t
 have hv:=S.v1
 have q0:=h.r0
 obtain ⟨W,Y,p,low,vl,G,hN⟩:=S.dg
 have h1:=G.down h.s h.q hc
 have h0:0<=dQ vs us i:=G.q.1
 have g0:0<=g - 1:=Int.le_trans h0 h1
 have hs:(g - 1)*dV1 vs+(r+dV1 vs)=dTop vs us i:=by
  rw [Int.sub_mul,Int.one_mul,<-h.s]; omega
 have hm:0<=(g - 1)*dV1 vs:=Int.mul_nonneg g0 (by omega)
 exact ⟨h1,g0,by have:=h.g1; omega,by omega,by omega,hs⟩
theorem GInv.stop {vs us:List Int} {i g r:Int} (S:DS vs us i) (h:GInv vs us i g r) (hg:g < 4294967296) (hc:4294967296<=r\/g*dV2 vs<=r*4294967296+dU2 vs us i):GEnd vs us i g:=by
 obtain ⟨W,Y,p,low,vl,G,hN⟩:=S.dg
 exact ⟨h.q,G.stop h.s h.g0 hg hc,h.g0,hg⟩
/-- The numbers that are divided, shifted so that the divisor has a great first limb. -/
structure Dv (a d:Nat) (n:Nat) (us vs:List Int):Prop where
 n1:n<=32
 uok:Ok32 us
 ul:us.length=(lb a).length+1
 uv:val us=(a:Int)*((2 ^ n:Nat):Int)
 vok:Ok32 vs
 vl:vs.length=(lb d).length+1
 vv:val vs=(d:Int)*((2 ^ n:Nat):Int)
 vt:vs.take (tlen vs)=lb (d*2 ^ n)
 tl:tlen vs=(lb d).length
theorem val_fixl:∀ (k n:Nat),n < 4294967296 ^ k->val (fixl k n)=n
 | 0,n,h=>by
  have:n=0:=by simpa using h
  subst this; rfl
 | k+1,n,h=>by
  simp only [fixl,val]
  rw [val_fixl k _ (by rw [Nat.pow_succ] at h; exact Nat.div_lt_of_lt_mul (by rw [Nat.mul_comm]; exact h))]
  omega
theorem lb_len_lt {n k:Nat} (h:n < 4294967296 ^ k):(lb n).length<=k:=by
 refine Decidable.byContradiction fun c=>?_
 have h0:n ≠ 0:=fun e=>by rw [e,lb_zero] at c; simp at c
 have h1:=lb_ge n h0
 have h2:(4294967296:Int) ^ k<=4294967296 ^ ((lb n).length - 1):=pow_mono32 (by omega)
 have h3:((4294967296 ^ k:Nat):Int)=4294967296 ^ k:=by simp
 omega
theorem lb_len_ge {n k:Nat} (h:4294967296 ^ k<=n):k < (lb n).length:=by
 refine Decidable.byContradiction fun c=>?_
 have h1:=lb_lt n
 have h2:(4294967296:Int) ^ (lb n).length<=4294967296 ^ k:=pow_mono32 (by omega)
 have h3:((4294967296 ^ k:Nat):Int)=4294967296 ^ k:=by simp
 omega
/-- The first limb of a number. -/
theorem lb_top {d k:Nat} (h:(lb d).length=k+1):∃ t:Nat,(lb d).getD k 0=t/\t ≠ 0/\t < 4294967296/\4294967296 ^ k*t<=d/\d < 4294967296 ^ k*(t+1):=by
 have h0:d ≠ 0:=fun e=>by rw [e,lb_zero] at h; simp at h
 have h1:=val_cut (lb d) k
 have h2:=val_drop' (lb d) k
 have h3:(lb d).drop (k+1)=[]:=List.drop_eq_nil_of_le (by omega)
 rw [h3] at h2
 have h4:=val_take_lt (lb_ok d) k
 have h5:=(lb_ok d).get k
 rw [val_lb,h2] at h1
 have h6:val ([]:List Int)=0:=rfl
 rw [h6] at h1
 have h7:=lb_ge d h0
 rw [h] at h7
 have h8:k+1 - 1=k:=by omega
 rw [h8] at h7
 obtain ⟨t,ht⟩:∃ t:Nat,(lb d).getD k 0=t:=⟨((lb d).getD k 0).toNat,by omega⟩
 have hc:((4294967296 ^ k:Nat):Int)=4294967296 ^ k:=by simp
 rw [ht] at h1 h5
 have h9:(d:Int)=val (List.take k (lb d))+((4294967296 ^ k*t:Nat):Int):=by
  rw [h1,Int.natCast_mul,hc]; simp
 rw [<-hc] at h4 h7
 have h10:4294967296 ^ k*(t+1)=4294967296 ^ k*t+4294967296 ^ k:=by rw [Nat.mul_add,Nat.mul_one]
 refine ⟨t,ht,fun e=>?_,by omega,by omega,by omega⟩
 rw [e,Nat.mul_zero] at h9
 omega
theorem isLen_of (t:Nat) (h0:t ≠ 0) (h:t < 4294967296):∃ n,IsLen n t/\n<=32/\1<=n:=by
 refine ⟨Nat.log2 t+1,⟨Nat.lt_log2_self,Or.inr ?_⟩,?_,by omega⟩
 ·exact Nat.log2_self_le h0
 ·have:=(Nat.log2_lt h0).2 (show t < 2 ^ 32 from h)
  omega
theorem Dv.ex {a d:Nat} (hk:2<=(lb d).length):∃ (t:Nat) (n:Nat) (us vs:List Int),(lb d).getD ((lb d).length - 1) 0=(t:Int)/\t < 4294967296/\n<=32/\IsLen (32 - n) t/\Dv a d n us vs:=by
 obtain ⟨k,hkk⟩:∃ k,(lb d).length=k+1:=⟨(lb d).length - 1,by omega⟩
 obtain ⟨t,h1,h2,h3,h4,h5⟩:=lb_top hkk
 obtain ⟨m,g1,g2,g3⟩:=isLen_of t h2 h3
 have e1:(lb d).length - 1=k:=by omega
 have e2:32 - (32 - m)=m:=by omega
 have hn:2 ^ (32 - m)<=4294967296:=by
  have:2 ^ (32 - m)<=2 ^ 32:=Nat.pow_le_pow_right (by decide) (by omega)
  exact this
 have hp:0 < 2 ^ (32 - m):=Nat.pow_pos (by decide)
 have hB:0 < 4294967296 ^ k:=Nat.pow_pos (by decide)
 have up:∀ x:Nat,x*2 ^ (32 - m) < 4294967296 ^ ((lb x).length+1):=by
  intro x
  have q1:=lb_lt x
  have q2:((4294967296 ^ (lb x).length:Nat):Int)=4294967296 ^ (lb x).length:=by simp
  have q3:x < 4294967296 ^ (lb x).length:=by omega
  rw [Nat.pow_succ]
  exact Nat.lt_of_lt_of_le (Nat.mul_lt_mul_of_pos_right q3 hp) (Nat.mul_le_mul_left _ hn)
 have hd:d*2 ^ (32 - m) < 4294967296 ^ (k+1):=by
  have q1:d*2 ^ (32 - m) < 4294967296 ^ k*(t+1)*2 ^ (32 - m):=Nat.mul_lt_mul_of_pos_right h5 hp
  have q2:(t+1)*2 ^ (32 - m)<=2 ^ m*2 ^ (32 - m):=Nat.mul_le_mul_right _ (by have:=g1.1; omega)
  have q3:2 ^ m*2 ^ (32 - m)=4294967296:=by
   rw [<-Nat.pow_add]
   have:m+(32 - m)=32:=by omega
   rw [this]
  rw [Nat.pow_succ]
  rw [q3] at q2
  refine Nat.lt_of_lt_of_le q1 ?_
  rw [Nat.mul_assoc]
  exact Nat.mul_le_mul_left _ q2
 have hv:val (fixl ((lb d).length+1) (d*2 ^ (32 - m)))=((d*2 ^ (32 - m):Nat):Int):=val_fixl _ _ (up d)
 have hvo:=fixl_ok ((lb d).length+1) (d*2 ^ (32 - m))
 have ht:=take_tlen hvo
 rw [hv,Int.toNat_natCast] at ht
 have hlen:(lb (d*2 ^ (32 - m))).length=k+1:=by
  have q1:=lb_len_lt hd
  have q2:4294967296 ^ k<=d*2 ^ (32 - m):=by
   have q3:4294967296 ^ k<=4294967296 ^ k*t:=Nat.le_mul_of_pos_right _ (by omega)
   have q4:d<=d*2 ^ (32 - m):=Nat.le_mul_of_pos_right _ hp
   omega
  have:=lb_len_ge q2
  omega
 have htl:tlen (fixl ((lb d).length+1) (d*2 ^ (32 - m)))=(lb d).length:=by
  have q1:=tlen_le (fixl ((lb d).length+1) (d*2 ^ (32 - m)))
  have q2:=congrArg List.length ht
  rw [List.length_take,hlen] at q2
  omega
 refine ⟨t,32 - m,fixl ((lb a).length+1) (a*2 ^ (32 - m)),fixl ((lb d).length+1) (d*2 ^ (32 - m)),by rw [e1]; exact h1,h3,by omega,by rw [e2]; exact g1,⟨by omega,fixl_ok _ _,fixl_length _ _,?_,hvo,fixl_length _ _,?_,ht,htl⟩⟩
 ·rw [val_fixl _ _ (up a)]; exact Int.natCast_mul _ _
 ·rw [hv]; exact Int.natCast_mul _ _
theorem Dv.ws {a d n:Nat} {us vs:List Int} (h:Dv a d n us vs):(lb (d*2 ^ n)).length=(lb d).length/\val (lb (d*2 ^ n))=(d:Int)*((2 ^ n:Nat):Int):=by
 refine ⟨?_,by rw [val_lb]; exact Int.natCast_mul _ _⟩
 rw [<-h.vt,List.length_take,h.tl,h.vl]; omega
theorem Dv.start {a d n:Nat} {us vs:List Int} (h:Dv a d n us vs) (hk:2<=(lb d).length) (hle:(lb d).length<=(lb a).length) {m:Nat} (hm:m=(lb a).length+1 - (lb d).length) {i:Int} (hi:i=(m:Int) - 1) {qs:List Int} (hq:qs=List.replicate m 0) :
  QInv ((a:Int)*((2 ^ n:Nat):Int)) (val (lb (d*2 ^ n))) (lb (d*2 ^ n)) m ((lb a).length+1) i us qs:=by
 subst hi; subst hq
 have e:((m:Int) - 1+1).toNat=m:=by omega
 have hp:0 < 2 ^ n:=Nat.pow_pos (by decide)
 refine ⟨by omega,by omega,h.ul,h.uok,?_,by simp,.rep _,fun j _=>rep_getD _ _,by rw [val_rep,h.uv]; omega⟩
 rw [e,h.uv,(h.ws).2]
 have d0:d ≠ 0:=fun c=>by rw [c,lb_zero] at hk; simp at hk
 have q1:=lb_lt a
 have q2:=lb_ge d d0
 have q3:(4294967296:Int) ^ (lb a).length<=(d:Int)*4294967296 ^ m:=by
  have e2:(lb a).length=(lb d).length - 1+m:=by omega
  rw [e2,Int.pow_add]
  exact Int.mul_le_mul_of_nonneg_right q2 (Int.le_of_lt (pow_pos32 _))
 have q4:(a:Int)*((2 ^ n:Nat):Int) < (d:Int)*4294967296 ^ m*((2 ^ n:Nat):Int):=Int.mul_lt_mul_of_pos_right (by omega) (by omega)
 have q5:(d:Int)*4294967296 ^ m*((2 ^ n:Nat):Int)=(d:Int)*((2 ^ n:Nat):Int)*4294967296 ^ m:=by
  generalize (4294967296:Int) ^ m=p
  grind
 rw [<-q5]
 exact q4
theorem Dv.fin {a d n m L:Nat} {us' qs':List Int} {i:Int} (hd:0 < d) (hv:val (lb (d*2 ^ n))=(d:Int)*((2 ^ n:Nat):Int)) (q:QInv ((a:Int)*((2 ^ n:Nat):Int)) (val (lb (d*2 ^ n))) (lb (d*2 ^ n)) m L i us' qs') (hi:i = -1):val qs'=((a / d:Nat):Int)/\val us'=(((a % d)*2 ^ n:Nat):Int):=by
 have hp:0 < 2 ^ n:=Nat.pow_pos (by decide)
 have h1:=q.v
 have h2:=q.ult
 have h3:=val_nonneg q.uok
 have h4:=val_nonneg q.qok
 have e:(i+1).toNat=0:=by omega
 rw [e] at h2
 rw [hv] at h1 h2
 obtain ⟨u,hu⟩:∃ u:Nat,val us'=u:=⟨(val us').toNat,by omega⟩
 obtain ⟨w,hw⟩:∃ u:Nat,val qs'=u:=⟨(val qs').toNat,by omega⟩
 rw [hu,hw] at h1
 rw [hu] at h2
 rw [hu,hw]
 have g1:a*2 ^ n=u+w*(d*2 ^ n):=by
  have:((a*2 ^ n:Nat):Int)=((u+w*(d*2 ^ n):Nat):Int):=by
   simp only [Int.natCast_add,Int.natCast_mul]; exact h1
  omega
 have g2:u < d*2 ^ n:=by
  have:(u:Int) < ((d*2 ^ n:Nat):Int):=by
   simp only [Int.natCast_mul]
   simpa using h2
  omega
 have hdp:0 < d*2 ^ n:=Nat.mul_pos hd hp
 have g3:a*2 ^ n / (d*2 ^ n)=w:=by
  rw [g1,Nat.mul_comm w,Nat.add_mul_div_left _ _ hdp,Nat.div_eq_of_lt g2,Nat.zero_add]
 have g4:a*2 ^ n % (d*2 ^ n)=u:=by
  rw [g1,Nat.mul_comm w,Nat.add_mul_mod_self_left,Nat.mod_eq_of_lt g2]
 rw [Nat.mul_div_mul_right _ _ hp] at g3
 rw [Nat.mul_mod_mul_right] at g4
 rw [g3,g4]
 exact ⟨rfl,rfl⟩
/-- A name for a value (cheaper than obtain, where the goal is great). -/
theorem exVar {α:Type} (x:α) {p:Prop} (h:∀ y,y=x->p):p:=h x rfl
theorem take_getD {xs:List Int} {n j:Nat} (h:j < n):(xs.take n).getD j 0=xs.getD j 0:=by
 simp only [List.getD_eq_getElem?_getD,List.getElem?_take,h,if_true]
/-- What the program computes on its way to a digit. -/
structure DF (u vs ws us:List Int) (i kk:Int):Prop where
 n1:std.inb (std.ib .add .i64 i kk) (std.len Int us)
 n2:std.inb (std.ib .sub .i64 (std.ib .add .i64 i kk) 1) (std.len Int us)
 n3:std.inb (std.ib .sub .i64 (std.ib .add .i64 i kk) 2) (std.len Int us)
 n4:std.inb (std.ib .sub .i64 kk 1) kk
 n5:std.inb (std.ib .sub .i64 kk 2) kk
 top:std.ib .or .u64 (std.ib .shl .u64 (std.cv .u64 (std.get Int u (std.ib .add .i64 i kk) 0)) 32) (std.cv .u64 (std.get Int u (std.ib .sub .i64 (std.ib .add .i64 i kk) 1) 0))=dTop ws u i
 v1:std.cv .u64 (std.get Int vs (std.ib .sub .i64 kk 1) 0)=dV1 ws
 v2:std.cv .u64 (std.get Int vs (std.ib .sub .i64 kk 2) 0)=dV2 ws
 u2:std.cv .u64 (std.get Int u (std.ib .sub .i64 (std.ib .add .i64 i kk) 2) 0)=dU2 ws u i
theorem DF.mk' {u vs ws us:List Int} {i kk:Int} (S:DS ws u i) (hkk:kk=ws.length) (hus:us.length=u.length) (hw:vs.take ws.length=ws) (hl:us.length<=1099511627776):DF u vs ws us i kk:=by
 have hlen:=S.len
 have hi:=S.i0
 have k2:=S.k2
 have e1:(i+kk).toNat=i.toNat+ws.length:=by omega
 have e2:(i+kk - 1).toNat=i.toNat+ws.length - 1:=by omega
 have e3:(i+kk - 2).toNat=i.toNat+ws.length - 2:=by omega
 have e4:(kk - 1).toNat=ws.length - 1:=by omega
 have e5:(kk - 2).toNat=ws.length - 2:=by omega
 have w1:std.ib .add .i64 i kk=i+kk:=by rw [s_add,w64 (by omega) (by omega)]
 have w2:std.ib .sub .i64 (std.ib .add .i64 i kk) 1=i+kk - 1:=by rw [w1,s_sub,w64 (by omega) (by omega)]
 have w3:std.ib .sub .i64 (std.ib .add .i64 i kk) 2=i+kk - 2:=by rw [w1,s_sub,w64 (by omega) (by omega)]
 have k1:std.ib .sub .i64 kk 1=kk - 1:=by rw [s_sub,w64 (by omega) (by omega)]
 have k2':std.ib .sub .i64 kk 2=kk - 2:=by rw [s_sub,w64 (by omega) (by omega)]
 have hv:∀ j,j < ws.length->vs.getD j 0=ws.getD j 0:=fun j hj=>by
  have h:=take_getD (xs:=vs) hj
  rw [hw] at h
  exact h.symm
 have a1:=S.uok.get (i.toNat+ws.length)
 have a2:=S.uok.get (i.toNat+ws.length - 1)
 have a3:=S.uok.get (i.toNat+ws.length - 2)
 have b1:=S.vok.get (ws.length - 1)
 have b2:=S.vok.get (ws.length - 2)
 refine ⟨?_,?_,?_,?_,?_,?_,?_,?_,?_⟩
 ·rw [w1,s_len,s_inb]; omega
 ·rw [w2,s_len,s_inb]; omega
 ·rw [w3,s_len,s_inb]; omega
 ·rw [k1,s_inb]; omega
 ·rw [k2',s_inb]; omega
 ·rw [w1,show std.ib .sub .i64 (i+kk) 1=i+kk - 1 from w1 ▸ w2,s_get,s_get,e1,e2,hilo a1.1 a1.2 a2.1 a2.2]; rfl
 ·rw [k1,s_get,e4,hv _ (by omega),s_cv,wu64 b1.1 (by omega)]; rfl
 ·rw [k2',s_get,e5,hv _ (by omega),s_cv,wu64 b2.1 (by omega)]; rfl
 ·rw [w3,s_get,e3,s_cv,wu64 a3.1 (by omega)]; rfl
theorem GInv.big {vs us:List Int} {i g r:Int} (h:GInv vs us i g r):std.ic .gtr (std.ib .shr .u64 g 32) 0=decide (4294967296<=g)/\std.ic .eql (std.ib .shr .u64 g 32) 0=decide (g < 4294967296)/\std.ic .gtr (std.ib .shr .u64 r 32) 0=decide (4294967296<=r)/\std.ic .eql (std.ib .shr .u64 r 32) 0=decide (r < 4294967296):=by
 have e:∀ x:Int,std.ib .shr .u64 x 32=x / 4294967296:=fun x=>Int.fdiv_eq_ediv_of_nonneg _ (by decide)
 have:=h.g0
 have:=h.r0
 rw [e,e,s_gtr,s_eql,s_gtr,s_eql]
 refine ⟨?_,?_,?_,?_⟩<;>refine decide_eq_decide.2 ?_<;>omega
theorem GInv.cmp {u vs ws us:List Int} {i kk g r:Int} (S:DS ws u i) (F:DF u vs ws us i kk) (h:GInv ws u i g r) (hg:g < 4294967296) (hr:r < 4294967296):std.ic .gtr (std.ib .mul .u64 g (std.cv .u64 (std.get Int vs (std.ib .sub .i64 kk 2) 0))) (std.ib .or .u64 (std.ib .shl .u64 r 32) (std.cv .u64 (std.get Int u (std.ib .sub .i64 (std.ib .add .i64 i kk) 2) 0)))=decide (r*4294967296+dU2 ws u i < g*dV2 ws):=by
 have hv:=S.v2
 have hu:=S.u2
 have hp:=prod_lt h.g0 hg hv.1 hv.2
 have h1:=hilo h.r0 hr hu.1 hu.2
 have e1:std.cv .u64 r=r:=by rw [s_cv,wu64 h.r0 h.r1]
 have e2:std.cv .u64 (dU2 ws u i)=dU2 ws u i:=by rw [s_cv,wu64 hu.1 (by omega)]
 rw [e1,e2] at h1
 rw [F.v2,F.u2,h1,s_mul,wu64 hp.1 (by omega),s_gtr]
theorem DS.quo {u vs ws us:List Int} {i kk:Int} (S:DS ws u i) (F:DF u vs ws us i kk):std.ib .quo .u64 (std.ib .or .u64 (std.ib .shl .u64 (std.cv .u64 (std.get Int u (std.ib .add .i64 i kk) 0)) 32) (std.cv .u64 (std.get Int u (std.ib .sub .i64 (std.ib .add .i64 i kk) 1) 0))) (std.cv .u64 (std.get Int vs (std.ib .sub .i64 kk 1) 0))=dTop ws u i / dV1 ws:=by
 have h:=S.first
 rw [F.top,F.v1,s_quo,Int.tdiv_eq_ediv_of_nonneg S.t.1,wu64 h.g0 h.g1]
theorem DS.rem {u vs ws us:List Int} {i kk:Int} (S:DS ws u i) (F:DF u vs ws us i kk):std.ib .rem .u64 (std.ib .or .u64 (std.ib .shl .u64 (std.cv .u64 (std.get Int u (std.ib .add .i64 i kk) 0)) 32) (std.cv .u64 (std.get Int u (std.ib .sub .i64 (std.ib .add .i64 i kk) 1) 0))) (std.cv .u64 (std.get Int vs (std.ib .sub .i64 kk 1) 0))=dTop ws u i % dV1 ws:=by
 rw [F.top,F.v1,s_rem,Int.tmod_eq_emod_of_nonneg S.t.1]
theorem DS.nzq {u vs ws us:List Int} {i kk:Int} (S:DS ws u i) (F:DF u vs ws us i kk):std.nz .quo (std.cv .u64 (std.get Int vs (std.ib .sub .i64 kk 1) 0)):=by
 have h:=S.v1
 rw [F.v1,nz_quo]; omega
theorem DS.nzr {u vs ws us:List Int} {i kk:Int} (S:DS ws u i) (F:DF u vs ws us i kk):std.nz .rem (std.cv .u64 (std.get Int vs (std.ib .sub .i64 kk 1) 0)):=by
 have h:=S.v1
 rw [F.v1,nz_rem]; omega
theorem digit_ok:InlOk Tryz.prog [(319,Tryz.f319,{ ord:=[(2,List.range 18),(3,List.range 18),(4,List.range 30)] })]:=
 InlOk.cons Tryz.func319 (by kernel_rfl) .nil
structure RunB (vs us u ws o:List Int) (i g j c b kk x y d b' c' j':Int) (o':List Int):Prop where
 inv:BInv ws u i g j' c' b' o'
 con:Con Tryz.prog 284 [.v (.int .u32 x),.v (.int .u32 y),.v (.int .u32 b)] (.v (.tuple #[.int .u32 d,.int .u32 b']))
 ex:std.get Int o (std.ib .add .i64 i j) 0=x
 ey:std.cv .u32 (std.ib .add .u64 c (std.ib .mul .u64 g (std.cv .u64 (std.get Int vs j 0))))=y
 ec:std.ib .shr .u64 (std.ib .add .u64 c (std.ib .mul .u64 g (std.cv .u64 (std.get Int vs j 0)))) 32=c'
 ej:std.ib .add .i64 j 1=j'
 eo:std.set Int o (std.ib .add .i64 i j) d=o'
 n1:std.inb j kk
 n2:std.inb (std.ib .add .i64 i j) (std.len Int us)
 mu:((ws.length:Int) - j').toNat < ((ws.length:Int) - j).toNat
theorem BInv.run {vs us u ws o:List Int} {i g j c b kk:Int} (S:DS ws u i) (hkk:kk=ws.length) (hus:us.length=u.length) (hw:vs.take ws.length=ws) (hl:us.length<=1099511627776) (G:GEnd ws u i g) (h:BInv ws u i g j c b o) (hj:j < kk):∃ x y d b' c' j' o',RunB vs us u ws o i g j c b kk x y d b' c' j' o':=by
 have hlen:=S.len
 have hi:=S.i0
 have hj0:=h.j0
 obtain ⟨t,ht⟩:∃ t,t=c+g*ws.getD j.toNat 0:=⟨_,rfl⟩
 obtain ⟨d,hd⟩:∃ d,d=(o.getD (i+j).toNat 0 - t % 4294967296 - b) % 4294967296:=⟨_,rfl⟩
 obtain ⟨b',hb'⟩:∃ d,d = - ((o.getD (i+j).toNat 0 - t % 4294967296 - b) / 4294967296):=⟨_,rfl⟩
 obtain ⟨t0,t1,hB⟩:=h.step S G.g0 G.g1 (by omega) ht hd hb'
 have hx:=h.ok.get (i+j).toNat
 have hy:=S.vok.get j.toNat
 have hp:=prod_lt G.g0 G.g1 hy.1 hy.2
 have w1:std.ib .add .i64 i j=i+j:=by rw [s_add,w64 (by omega) (by omega)]
 have hv:vs.getD j.toNat 0=ws.getD j.toNat 0:=by
  have h:=take_getD (xs:=vs) (n:=ws.length) (j:=j.toNat) (by omega)
  rw [hw] at h
  exact h.symm
 have et:std.ib .add .u64 c (std.ib .mul .u64 g (std.cv .u64 (std.get Int vs j 0)))=t:=by
  have:=h.c0
  have:=G.g1
  rw [s_get,hv,s_cv,wu64 hy.1 (by omega),s_mul,wu64 hp.1 (by omega),s_add,<-ht,wu64 t0 t1]
 refine ⟨o.getD (i+j).toNat 0,t % 4294967296,d,b',t / 4294967296,j+1,o.set (i+j).toNat d,⟨hB,sub32_con _ _ _ _ _ hx.1 hx.2 (by omega) (by omega) h.b0 h.b1 hd hb',?_,?_,?_,?_,?_,?_,?_,?_⟩⟩
 ·rw [w1,s_get]
 ·rw [et,s_cv,IntKind.wrap_u32]
 ·rw [et]; exact Int.fdiv_eq_ediv_of_nonneg _ (by decide)
 ·rw [s_add,w64 (by omega) (by omega)]
 ·rw [w1,s_set]
 ·rw [s_inb]; omega
 ·rw [w1,s_len,s_inb]; omega
 ·omega
structure RunL (us u ws o:List Int) (i g c b kk x d b':Int) (o':List Int):Prop where
 con:Con Tryz.prog 284 [.v (.int .u32 x),.v (.int .u32 c),.v (.int .u32 b)] (.v (.tuple #[.int .u32 d,.int .u32 b']))
 ex:std.get Int o (std.ib .add .i64 i kk) 0=x
 ec:std.cv .u32 c=c
 eo:std.set Int o (std.ib .add .i64 i kk) d=o'
 n1:std.inb (std.ib .add .i64 i kk) (std.len Int us)
 zero:b'=0->DEnd ws u i g o'
 one:b' ≠ 0->Ok32 o'/\o'.length=u.length/\(∀ m,i.toNat+ws.length+1<=m->o'.getD m 0=0)/\val o'=val u - g*(val ws*4294967296 ^ i.toNat)+4294967296 ^ (i.toNat+ws.length+1)
 eg:std.cv .u32 g=g
theorem BInv.runL {us u ws o:List Int} {i g j c b kk:Int} (S:DS ws u i) (hkk:kk=ws.length) (hus:us.length=u.length) (hl:us.length<=1099511627776) (G:GEnd ws u i g) (h:BInv ws u i g j c b o) (hj:¬ j < kk):∃ x d b' o',RunL us u ws o i g c b kk x d b' o':=by
 have hlen:=S.len
 have hi:=S.i0
 have hj1:=h.j1
 have hjj:j=ws.length:=by omega
 subst hkk
 obtain ⟨d,hd⟩:∃ d,d=(o.getD (i+ws.length).toNat 0 - c - b) % 4294967296:=⟨_,rfl⟩
 obtain ⟨b',hb'⟩:∃ d,d = - ((o.getD (i+ws.length).toNat 0 - c - b) / 4294967296):=⟨_,rfl⟩
 obtain ⟨p1,p2,p3,p4,p5,p6⟩:=h.last S hjj hd hb'
 have hx:=h.ok.get (i+ws.length).toNat
 have w1:std.ib .add .i64 i (ws.length:Int)=i+ws.length:=by rw [s_add,w64 (by omega) (by omega)]
 refine ⟨o.getD (i+ws.length).toNat 0,d,b',o.set (i+ws.length).toNat d,⟨sub32_con _ _ _ _ _ hx.1 hx.2 h.c0 h.c1 h.b0 h.b1 hd hb',?_,?_,?_,?_,fun hz=>?_,fun hz=>⟨p4,p3,p5,?_⟩,?_⟩⟩
 ·rw [w1,s_get]
 ·rw [s_cv,wu32 h.c0 h.c1]
 ·rw [w1,s_set]
 ·rw [w1,s_len,s_inb]; omega
 ·rw [hz] at p6
  exact BInv.done S G.q p3 p4 p6
 ·have:b'=1:=by omega
  rw [p6,this,Int.one_mul]
 ·rw [s_cv,wu32 G.g0 G.g1]
structure RunA (vs us o2 ws o:List Int) (i j s kk x y d s' j':Int) (o':List Int):Prop where
 inv:AInv ws o2 i j' s' o'
 con:Con Tryz.prog 344 [.v (.int .u32 x),.v (.int .u32 y),.v (.int .u32 s)] (.v (.tuple #[.int .u32 d,.int .u32 s']))
 ex:std.get Int o (std.ib .add .i64 i j) 0=x
 ey:std.get Int vs j 0=y
 ej:std.ib .add .i64 j 1=j'
 eo:std.set Int o (std.ib .add .i64 i j) d=o'
 n1:std.inb j kk
 n2:std.inb (std.ib .add .i64 i j) (std.len Int us)
 mu:((ws.length:Int) - j').toNat < ((ws.length:Int) - j).toNat
theorem AInv.run {vs us u o2 ws o:List Int} {i j s kk:Int} (S:DS ws u i) (hkk:kk=ws.length) (hus:us.length=u.length) (hw:vs.take ws.length=ws) (hl:us.length<=1099511627776) (h2:o2.length=u.length) (h:AInv ws o2 i j s o) (hj:j < kk):∃ x y d s' j' o',RunA vs us o2 ws o i j s kk x y d s' j' o':=by
 have hlen:=S.len
 have hi:=S.i0
 have hj0:=h.j0
 obtain ⟨d,hd⟩:∃ d,d=(o.getD (i+j).toNat 0+ws.getD j.toNat 0+s) % 4294967296:=⟨_,rfl⟩
 obtain ⟨s',hs'⟩:∃ d,d=(o.getD (i+j).toNat 0+ws.getD j.toNat 0+s) / 4294967296:=⟨_,rfl⟩
 have hB:=h.step S.vok hi (by omega) (by omega) hd hs'
 have hx:=h.ok.get (i+j).toNat
 have hy:=S.vok.get j.toNat
 have w1:std.ib .add .i64 i j=i+j:=by rw [s_add,w64 (by omega) (by omega)]
 have hv:vs.getD j.toNat 0=ws.getD j.toNat 0:=by
  have h:=take_getD (xs:=vs) (n:=ws.length) (j:=j.toNat) (by omega)
  rw [hw] at h
  exact h.symm
 refine ⟨o.getD (i+j).toNat 0,ws.getD j.toNat 0,d,s',j+1,o.set (i+j).toNat d,⟨hB,add32_con _ _ _ _ _ hx.1 hx.2 hy.1 hy.2 h.s0 h.s1 hd hs',?_,?_,?_,?_,?_,?_,?_⟩⟩
 ·rw [w1,s_get]
 ·rw [s_get,hv]
 ·rw [s_add,w64 (by omega) (by omega)]
 ·rw [w1,s_set]
 ·rw [s_inb]; omega
 ·rw [w1,s_len,s_inb]; omega
 ·omega
structure RunE (us u ws o:List Int) (i g s kk g':Int) (o':List Int):Prop where
 eo:std.set Int o (std.ib .add .i64 i kk) (std.ib .add .u32 (std.get Int o (std.ib .add .i64 i kk) 0) s)=o'
 n1:std.inb (std.ib .add .i64 i kk) (std.len Int us)
 eg:std.cv .u32 (std.ib .sub .u64 g 1)=g'
 fin:DEnd ws u i g' o'
theorem AInv.runE {us u o2 ws o:List Int} {i g j s kk:Int} (S:DS ws u i) (hkk:kk=ws.length) (hus:us.length=u.length) (hl:us.length<=1099511627776) (G:GEnd ws u i g)
  (h2:Ok32 o2/\o2.length=u.length/\(∀ m,i.toNat+ws.length+1<=m->o2.getD m 0=0)/\val o2=val u - g*(val ws*4294967296 ^ i.toNat)+4294967296 ^ (i.toNat+ws.length+1))
  (h:AInv ws o2 i j s o) (hj:¬ j < kk):∃ g' o',RunE us u ws o i g s kk g' o':=by
 have hlen:=S.len
 have hi:=S.i0
 have hj1:=h.j1
 have hjj:j=ws.length:=by omega
 subst hkk
 obtain ⟨d,hd⟩:∃ d,d=(o.getD (i+ws.length).toNat 0+s) % 4294967296:=⟨_,rfl⟩
 have hf:=AInv.last (g:=g) S h2.2.1 G.q1 h2.2.2.1 h2.1 h2.2.2.2 h hjj hd
 have hx:=h.ok.get (i+ws.length).toNat
 have w1:std.ib .add .i64 i (ws.length:Int)=i+ws.length:=by rw [s_add,w64 (by omega) (by omega)]
 have hq:0<=dQ ws u i:=by
  obtain ⟨W,Y,p,low,vl,G',hN⟩:=S.dg
  exact G'.q.1
 have hg1:0<=g - 1:=by
  have h1:g - 1=dQ ws u i:=hf.eg
  omega
 have:=G.g1
 refine ⟨g - 1,o.set (i+ws.length).toNat d,⟨?_,?_,?_,hf⟩⟩
 ·rw [w1,s_set,s_get,s_add,IntKind.wrap_u32,hd]
 ·rw [w1,s_len,s_inb]; omega
 ·rw [s_sub,wu64 hg1 (by omega),s_cv,wu32 hg1 (by omega)]
end Go.Proofs.YtkipmmiiackdaaaGreat.Sx
