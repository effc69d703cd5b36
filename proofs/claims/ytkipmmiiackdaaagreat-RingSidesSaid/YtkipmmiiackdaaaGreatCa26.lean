/- Part 26 of what the statement needs: an executor of Go texts, arithmetic, and contracts of the functions that are called. -/
import Derived.Test.YtkipmmiiackdaaaGreatCa25
set_option linter.unusedSimpArgs false
set_option linter.unusedVariables false
set_option maxHeartbeats 8000000
set_option maxRecDepth 100000
namespace Go.Proofs.YtkipmmiiackdaaaGreat.Sx
open Env (std)
abbrev tiS:TI:={ kind:=2,sz:=8,zero:=[.string ⟨#[]⟩,.string ⟨#[]⟩,.string ⟨#[]⟩,.string ⟨#[]⟩,.string ⟨#[]⟩,.string ⟨#[]⟩,.string ⟨#[]⟩,.string ⟨#[]⟩],flds:=[],elem:=9,ik:=.i64,eq:=false,len:=8,bytes:=128,cd:=none }
abbrev tiU:TI:={ kind:=5,sz:=1,zero:=[.int .u64 0],flds:=[],elem:=0,ik:=.u64,eq:=false,len:=0,bytes:=8,cd:=some (cInt .u64) }
theorem tyS:TyOk Tryz.prog 297 tiS:=⟨by kernel_rfl,by kernel_rfl,(fun h=>by cases h),rfl,(fun _ h=>by cases h),(fun h=>by cases h)⟩
theorem tyU:TyOk Tryz.prog 196 tiU:=⟨by kernel_rfl,by kernel_rfl,(fun _=>⟨_,rfl,rfl⟩),rfl,(fun _ h=>by injection h with h; subst h; exact ⟨cInt_ok _,rfl,rfl⟩),(fun h=>by cases h)⟩
def ttS:Tab:=(297,tiS)::(196,tiU)::tt
theorem ttSOk:TabOk Tryz.prog ttS:=.cons tyS (.cons tyU ttOk)
theorem divMag_con (a:ByteArray) (B m:Nat) (ha:a.size<=536870912) (hb:(mg B).size<=m) (hm:m<=536870912) (hB:0 < B):Con Tryz.prog 330 [.v (.string a),.v (.string (mg B))] (.v (.tuple #[.string (mg (bv a / B)),.string (mg (bv a % B))])):=by
 obtain ⟨n,hn⟩:∃ n:Int,n=(a.size:Int):=⟨_,rfl⟩
 obtain ⟨b,hbv⟩:∃ b,b=mg B:=⟨_,rfl⟩
 obtain ⟨res,hres⟩:∃ r,r=mg (bv a / B):=⟨_,rfl⟩
 obtain ⟨rem,hrem⟩:∃ r,r=mg (bv a % B):=⟨_,rfl⟩
 rw [<-hres,<-hrem,<-hbv]
 have la:(dg a).length=a.size:=(dg_size a).symm
 obtain ⟨i0,hi0⟩:∃ i:Int,i=1:=⟨_,rfl⟩
 obtain ⟨c0,hc0⟩:∃ i:Int,i=0:=⟨_,rfl⟩
 obtain ⟨k7,hk7⟩:∃ i:Int,i=7:=⟨_,rfl⟩
 obtain ⟨r0,hr0⟩:∃ r:ByteArray,r=⟨⟨[]⟩⟩:=⟨_,rfl⟩
 obtain ⟨ts0,hts0⟩:∃ ts:List ByteArray,ts=(List.replicate 8 (⟨⟨[]⟩⟩:ByteArray)).set 0 b:=⟨_,rfl⟩
 obtain ⟨o0,ho0⟩:∃ o:List Int,o=List.replicate a.size 0:=⟨_,rfl⟩
 have hz0:RtInv B i0 ts0:=by
  rw [hi0,hts0]
  refine ⟨by decide,by decide,by simp,fun j hj=>?_⟩
  have:j=0:=by omega
  subst this
  rw [hbv,Nat.pow_zero,Nat.mul_one]; rfl
 have hz1:RfInv (dg a) B c0 (bv r0) o0/\r0=mg (bv r0):=by
  rw [hc0,hr0,ho0]
  have:=RfInv.zero (dg a) B
  rw [la] at this
  exact ⟨this,(mg_nil.2 rfl).symm⟩
 have hsz:std.sz a=n:=by rw [s_sz,hn]
 have hmk:std.rng 0 (std.sz a) (std.sz a)/\std.fits (std.sz a) 1:=by rw [hsz,s_rng,s_fits]; omega
 have hrep:std.rep Int n 0=o0:=by rw [s_rep,ho0,hn]; rfl
 have hin0:std.inb 0 (std.nof 8)/\std.len ByteArray (std.rep ByteArray (std.nof 8) ⟨⟨[]⟩⟩)=std.nof 8:=by
  rw [s_inb,s_nof,s_rep,s_len]; exact ⟨by decide,by simp⟩
 have hset0:std.set ByteArray (std.rep ByteArray (std.nof 8) ⟨⟨[]⟩⟩) 0 b=ts0:=by rw [s_set,s_rep,s_nof,hts0]; rfl
 have hfin:∀ o r,RfInv (dg a) B n (bv r) o->r=mg (bv r)->r=rem/\∃ s,std.b2s Int (fun x=>[.int .u8 x]) (std.tk Int o n)=s/\s.size<=1099511627776/\mg (bv s)=res:=by
  intro o r h hr
  have hl:=h.len
  have hv:=h.v
  rw [List.take_of_length_le (by omega),List.take_of_length_le (by omega)] at hv
  have hrr:=h.r
  rw [List.take_of_length_le (by omega)] at hrr
  obtain ⟨s,e1,e2,e3⟩:=b2s_bval h.ok
  refine ⟨by rw [hr,hrr,hrem]; rfl,s,?_,by omega,?_⟩
  ·rw [s_tk,List.take_of_length_le (by omega)]; exact e1
  ·rw [hres]; congr 1
   rw [hv] at e2
   exact Int.ofNat.inj e2
 refine Con.of ttSOk mixed Tryz.func330 { ord:=[(6,[0,1,2,3,4,5,6,7,8,9,10,11])] } .nil 0 (by kernel_rfl) (fun P' E hP hE=>?_)
 cbv
 repeat (refine Need.mk (by subst hE; first | exact hin0 | (simp; done)) ?_; cbv)
 refine LoopTo.by (ι:=Int × List ByteArray) (fun x=>[(7,.v (.int .i64 x.1))]) (fun x=>[(2,.row true 297 cStr x.2)]) (fun x=>RtInv B x.1 x.2) (fun x=>(8 - x.1).toNat) (i0,ts0) [] hz0 ?_ ?_
 ·cbv
  subst hE
  and_intros
  all_goals first
   | rfl
   | exact True.intro
   | exact vj hi0.symm
   | exact vi hi0.symm
   | exact Sm.of hset0
   | (simp; done)
 ·rintro ⟨i,ts⟩ hi
  have hi:RtInv B i ts:=hi
  have q1:=hi.i0
  have q2:=hi.i1
  clear hz0
  cbv
  refine fork.mk ?_ ?_
  ·intro g1
   have q1:1<=i:=q1
   have hlt:i < 8:=by subst hE; exact of_decide_eq_true (show decide (i < 8)=true from g1)
   have hst:=hi.step hlt
   have hl:=hi.len
   have hsub:std.ib .sub .i64 i 1=i - 1:=by rw [s_sub,w64 (by omega) (by omega)]
   have hget:std.get ByteArray ts (std.ib .sub .i64 i 1) ⟨⟨[]⟩⟩=mg (B*2 ^ (i - 1).toNat):=by rw [hsub,s_get]; exact hst.1
   have hin1:std.inb (std.ib .sub .i64 i 1) (std.nof 8)/\std.len ByteArray ts=std.nof 8:=by
    rw [hsub,s_inb,s_nof,s_len,hl]; exact ⟨⟨by omega,by show i - 1 < 8; omega⟩,rfl⟩
   have hin2:std.inb i (std.nof 8)/\std.len ByteArray ts=std.nof 8:=by
    rw [s_inb,s_nof,s_len,hl]; exact ⟨⟨by omega,by show i < 8; omega⟩,rfl⟩
   have hsm:=mg_size_mul (j:=(i - 1).toNat) hb (by omega)
   have hadd:=addMag_con (mg (B*2 ^ (i - 1).toNat)) (mg (B*2 ^ (i - 1).toNat)) (by omega) (by omega)
   rw [bv_mg] at hadd
   have hst:=hst.2
   refine exVar (mg (B*2 ^ (i - 1).toNat)) ?_; intro x hx
   refine exVar (mg (B*2 ^ (i - 1).toNat+B*2 ^ (i - 1).toNat)) ?_; intro y hy
   refine exVar (ts.set i.toNat y) ?_; intro ts' hts'
   refine exVar (i+1) ?_; intro i' hi'
   rw [<-hy,<-hts',<-hi'] at hst
   rw [<-hx,<-hy] at hadd
   rw [<-hx] at hget
   have hset:std.set ByteArray ts i y=ts':=by rw [s_set,hts']
   have hii:std.ib .add .i64 i 1=i':=by rw [s_add,w64 (by omega) (by omega),hi']
   have hmu:(8 - i').toNat < (8 - i).toNat:=by omega
   clear hx hy hts' hsm hi hl
   cbv
   repeat (refine Need.mk (by subst hE; first | exact hin1 | exact hin2 | (simp; done)) ?_; cbv)
   refine CallTo.con hP hE hadd (by subst hE; exact ⟨congrArg Value.string hget,congrArg Value.string hget,trivial⟩) ?_
   cbv
   repeat (refine Need.mk (by subst hE; first | exact hin1 | exact hin2 | (simp; done)) ?_; cbv)
   refine ⟨(i',ts'),[],hst,hmu,?_⟩
   cbv
   subst hE
   and_intros
   all_goals first
    | rfl
    | exact True.intro
    | exact Sm.of hset
    | exact vi hii
    | (simp; done)
  ·intro g1
   have q2:i<=8:=q2
   have hge:¬ i < 8:=by subst hE; exact of_decide_eq_false (show decide (i < 8)=false from g1)
   have htv:∀ k:Int,0<=k->k<=7->std.get ByteArray ts k ⟨⟨[]⟩⟩=mg (B*2 ^ k.toNat):=by
    intro k h0 h1
    rw [s_get]; exact hi.v _ (by omega)
   have htl:std.len ByteArray ts=std.nof 8:=by rw [s_len,hi.len]; rfl
   clear hi
   cbv
   refine Need.mk (by subst hE; exact hmk) ?_
   cbv
   refine LoopTo.by (ι:=Int × ByteArray × List Int) (fun x=>[(10,.v (.int .i64 x.1)),(9,.v (.string x.2.1)),(8,.s 3 n)]) (fun x=>[(3,.row true 5 (cInt .u8) x.2.2)]) (fun x=>RfInv (dg a) B x.1 (bv x.2.1) x.2.2/\x.2.1=mg (bv x.2.1)) (fun x=>(n - x.1).toNat) (c0,r0,o0) [] hz1 ?_ ?_
   ·cbv
    subst hE
    and_intros
    all_goals first
     | rfl
     | exact True.intro
     | exact vj hc0.symm
     | exact vi hc0.symm
     | exact congrArg (fun x=>Value.string x) hr0.symm
     | exact congrArg (fun x=>AV.v (Value.string x)) hr0.symm
     | exact congrArg (AV.s 3) hsz
     | exact Sm.of ((congrArg (fun x=>std.rep Int x 0) hsz).trans hrep)
     | (simp; done)
   ·rintro ⟨i,r,o⟩ hi
    have hi1:RfInv (dg a) B i (bv r) o:=hi.1
    have hi2:r=mg (bv r):=hi.2
    have q3:=hi1.i0
    have q4:=hi1.i1
    clear hi hz1
    cbv
    refine fork.mk ?_ ?_
    ·intro g2
     have la:(dg a).length=a.size:=la
     have hn:n=(a.size:Int):=hn
     have q3:0<=i:=q3
     have q4:i<=((dg a).length:Int):=q4
     have hb:(mg B).size<=m:=hb
     have ha:a.size<=536870912:=ha
     have hlt:i < a.size:=by subst hE; exact of_decide_eq_true (show decide (i < (a.size:Int))=true from g2)
     have hst:=hi1.step hB (by omega)
     have hrB:bv r < B:=by rw [hi1.r]; exact Nat.mod_lt _ hB
     have hrs:r.size<=m:=by rw [hi2]; exact mg_size_le (Nat.lt_trans hrB (bv_lt_pow hb))
     have hi1w:std.ib .add .i64 i 1=i+1:=by rw [s_add,w64 (by omega) (by omega)]
     have hrng:std.rng i (std.ib .add .i64 i 1) (std.sz a):=by rw [hi1w,s_rng,s_sz]; omega
     have hss:std.ss a i (std.ib .add .i64 i 1)=a.extract i.toNat (i+1).toNat:=by rw [hi1w,s_ss]
     have hes:(a.extract i.toNat (i+1).toNat).size=1:=by rw [ByteArray.size_extract]; omega
     have hfits:std.fits (std.ad (std.sz r) (std.sz (std.ss a i (std.ib .add .i64 i 1)))) 1:=by
      rw [hss,s_ad,s_sz,s_sz,s_fits,hes]; omega
     have hsc:std.sc r (std.ss a i (std.ib .add .i64 i 1))=r++a.extract i.toNat (i+1).toNat:=by rw [hss,s_sc]
     have htr:=rtrim_con (r++a.extract i.toNat (i+1).toNat) (by rw [ByteArray.size_append,hes]; omega)
     rw [bv_snoc r a q3 hlt] at htr
     have hz:=ReInv.zero hst.1
     have hst:=hst.2
     refine exVar (bv r*256+((dg a).getD i.toNat 0).toNat) ?_; intro R0 hR0
     rw [<-hR0] at htr hz hst
     refine exVar (r++a.extract i.toNat (i+1).toNat) ?_; intro cat hcat
     rw [<-hcat] at htr hsc
     refine exVar (mg R0) ?_; intro r1 hr1
     rw [<-hr1] at htr
     have hz2:ReInv B R0 k7 (bv r1) c0/\r1=mg (bv r1):=by
      rw [hr1,bv_mg,hk7,hc0]; exact ⟨hz,rfl⟩
     have hinn:std.inb i n:=by rw [s_inb]; omega
     refine exVar (i+1) ?_; intro i' hi'
     rw [<-hi'] at hst
     have hi1w:std.ib .add .i64 i 1=i':=by rw [hi1w,hi']
     have hmu:(n - i').toNat < (n - i).toNat:=by omega
     clear hcat hz hi1 hR0 hr1
     cbv
     repeat (refine Need.mk (by subst hE; first | exact hrng | exact hfits | (simp; done)) ?_; cbv)
     refine CallTo.con hP hE htr (by subst hE; exact ⟨congrArg Value.string hsc,trivial⟩) ?_
     cbv
     refine LoopTo.by (ι:=Int × ByteArray × Int) (fun x=>[(12,.v (.int .i64 x.1)),(9,.v (.string x.2.1)),(11,.v (.int .i64 x.2.2))]) (fun x=>[]) (fun x=>ReInv B R0 x.1 (bv x.2.1) x.2.2/\x.2.1=mg (bv x.2.1)) (fun x=>(x.1+1).toNat) (k7,r1,c0) [] hz2 ?_ ?_
     ·cbv
      subst hE
      and_intros
      all_goals first
       | rfl
       | exact True.intro
       | exact vj hk7.symm
       | exact vi hk7.symm
       | exact vj hc0.symm
       | exact vi hc0.symm
       | (simp; done)
     ·rintro ⟨k,s,d⟩ hk
      have hk1:ReInv B R0 k (bv s) d:=hk.1
      have hk2:s=mg (bv s):=hk.2
      have q5:=hk1.k0
      have q6:=hk1.k1
      have q7:=hk1.d0
      have q8:=hk1.d1
      clear hk hz2
      cbv
      refine fork.mk ?_ ?_
      ·intro g3
       have q5 : -1<=k:=q5
       have q6:k<=7:=q6
       have q7:0<=d:=q7
       have hb:(mg B).size<=m:=hb
       have hk0:0<=k:=by subst hE; exact of_decide_eq_true (show decide (k>=0)=true from g3)
       have hst3:=hk1.step hk0
       have hget:=htv k hk0 q6
       have hin3:std.inb k (std.nof 8)/\std.len ByteArray ts=std.nof 8:=by
        refine ⟨?_,htl⟩
        rw [s_inb,s_nof]; exact ⟨hk0,by show k < 8; omega⟩
       have hsm:=mg_size_mul (j:=k.toNat) hb (by omega)
       have hss2:s.size<=m+1:=by
        rw [hk2]
        refine mg_size_le ?_
        have h1:=hk1.r
        have h2:=mg_size_mul (j:=(k+1).toNat - 1) hb (by omega)
        have h3:B*2 ^ (k+1).toNat<=B*256:=Nat.mul_le_mul_left _ (by
         have:(256:Nat)=2 ^ 8:=by decide
         rw [this]; exact Nat.pow_le_pow_right (by decide) (by omega))
        have h4:=bv_lt_pow hb
        clear h2
        rw [Nat.pow_succ]
        omega
       have hcmp:=cmpM_con (bv s) (B*2 ^ k.toNat) (by rw [<-hk2]; omega) (by omega)
       have hsubm:=fun h=>subMag_con s (mg (B*2 ^ k.toNat)) (by omega) (by omega) h
       rw [bv_mg] at hsubm
       rw [<-hk2] at hcmp
       have hshl:=shl1 hk0 q6
       have hnz:std.nz .shl (std.cv .u64 k):=by
        have e9:IntKind.u64.wrap k=k:=wu64 hk0 (by omega)
        rw [s_cv,e9]; exact hk0
       refine exVar (B*2 ^ k.toNat) ?_; intro D hD
       rw [<-hD] at hst3 hget hcmp hsubm
       refine exVar (mg D) ?_; intro tk htk
       rw [<-htk] at hget hcmp hsubm
       refine exVar (k - 1) ?_; intro k' hk'
       rw [<-hk'] at hst3
       have hkw:std.ib .sub .i64 k 1=k':=by rw [s_sub,w64 (by omega) (by omega),hk']
       have hmu3:(k'+1).toNat < (k+1).toNat:=by omega
       have hdw:std.ib .add .i64 d (std.ib .shl .i64 1 (std.cv .u64 k))=d+((2 ^ k.toNat:Nat):Int):=by
        have e1:(k+1).toNat=k.toNat+1:=by omega
        have q8:d+((2 ^ (k+1).toNat:Nat):Int)<=256:=q8
        rw [e1,Nat.pow_succ] at q8
        rw [hshl,s_add,w64 (by omega) (by omega)]
       refine exVar (cmpI (bv s) D) ?_; intro c hc
       rw [<-hc] at hcmp
       have hc1:0<=c->D<=bv s:=by
        intro h
        rw [hc,cmpI] at h
        split at h
        ·omega
        ·omega
       have hc2:¬ 0<=c->bv s < D:=by
        intro h
        rw [hc,cmpI] at h
        split at h
        ·omega
        ·split at h<;>omega
       clear hc hD htk hsm hk1
       cbv
       repeat (refine Need.mk (by subst hE; first | exact hin3 | (simp; done)) ?_; cbv)
       refine CallTo.con hP hE hcmp (by subst hE; exact ⟨rfl,congrArg Value.string hget,trivial⟩) ?_
       cbv
       refine fork.mk ?_ ?_
       ·intro g4
        have hle:=hc1 (by subst hE; exact of_decide_eq_true (show decide (c>=0)=true from g4))
        have hsubm:=hsubm hle
        have hst3:=hst3.1 hle
        refine exVar (mg (bv s - D)) ?_; intro s' hs'
        rw [<-hs'] at hsubm
        refine exVar (d+((2 ^ k.toNat:Nat):Int)) ?_; intro d' hd'
        rw [<-hd'] at hst3 hdw
        have hq:ReInv B R0 k' (bv s') d'/\s'=mg (bv s'):=by
         rw [hs',bv_mg]; exact ⟨hst3,rfl⟩
        clear hs' hd' hst3
        cbv
        repeat (refine Need.mk (by subst hE; first | exact hin3 | (simp; done)) ?_; cbv)
        refine CallTo.con hP hE hsubm (by subst hE; exact ⟨rfl,congrArg Value.string hget,trivial⟩) ?_
        cbv
        repeat (refine Need.mk (by subst hE; first | exact hin3 | exact hnz | (simp; done)) ?_; cbv)
        refine ⟨(k',s',d'),[],hq,hmu3,?_⟩
        cbv
        subst hE
        and_intros
        all_goals first
         | rfl
         | exact True.intro
         | exact vi hkw
         | exact vi hdw
         | (simp; done)
       ·intro g4
        have hlt4:=hc2 (by subst hE; exact of_decide_eq_false (show decide (c>=0)=false from g4))
        have hst3:=hst3.2 hlt4
        have hq:ReInv B R0 k' (bv s) d/\s=mg (bv s):=⟨hst3,hk2⟩
        clear hst3
        cbv
        refine ⟨(k',s,d),[],hq,hmu3,?_⟩
        cbv
        subst hE
        and_intros
        all_goals first
         | rfl
         | exact True.intro
         | exact vi hkw
         | (simp; done)
      ·intro g3
       have q5 : -1<=k:=q5
       have hk0:¬ 0<=k:=by subst hE; exact of_decide_eq_false (show decide (k>=0)=false from g3)
       have hkm:k = -1:=by omega
       subst hkm
       have hlast:=hk1.last
       have hd256:d < 256:=by
        have q8:d+((2 ^ ((-1:Int)+1).toNat:Nat):Int)<=256:=q8
        have:(2 ^ ((-1:Int)+1).toNat:Nat)=1:=by decide
        omega
       have q7:0<=d:=q7
       have hst:RfInv (dg a) B i' (bv s) (o.set i.toNat d):=by
        rw [hlast.2.1,hlast.2.2]; exact hst
       refine exVar (o.set i.toNat d) ?_; intro o' ho'
       rw [<-ho'] at hst
       have hset:std.set Int o i (std.cv .u8 d)=o':=by rw [s_set,s_cv,IntKind.wrap_u8,Int.emod_eq_of_lt q7 hd256,ho']
       have hq:RfInv (dg a) B i' (bv s) o'/\s=mg (bv s):=⟨hst,hk2⟩
       clear hst ho' hk1 hlast
       cbv
       repeat (refine Need.mk (by subst hE; first | exact hinn | (simp; done)) ?_; cbv)
       refine ⟨(i',s,o'),[],hq,hmu,?_⟩
       cbv
       subst hE
       and_intros
       all_goals first
        | rfl
        | exact True.intro
        | exact Sm.of hset
        | exact vi hi1w
        | (simp; done)
    ·intro g2
     have la:(dg a).length=a.size:=la
     have hn:n=(a.size:Int):=hn
     have q4:i<=((dg a).length:Int):=q4
     have hge:¬ i < a.size:=by subst hE; exact of_decide_eq_false (show decide (i < (a.size:Int))=false from g2)
     have hin:i=n:=by omega
     subst hin
     have hl:=hfin o r hi1 hi2
     have hrr:=hl.1
     cbv
     refine Need.mk (fun y=>⟨y,rfl⟩) ?_
     refine Exists.elim hl.2 ?_
     intro s hs
     have hs1:std.b2s Int (fun x=>[.int .u8 x]) (std.tk Int o i)=s:=hs.1
     have hs2:=hs.2.2
     have ht:=rtrim_con s hs.2.1
     rw [hs2] at ht
     cbv
     refine CallTo.con hP hE ht (by subst hE; exact ⟨congrArg Value.string hs1,trivial⟩) ?_
     cbv
     rw [hrr]
/-- A canonical integer in its parts. -/
structure Zp (z:Int) (sg:Bool) (m:ByteArray):Prop where
 s:sg=decide (z < 0)
 m:m=mg z.natAbs
theorem Zp.v {z:Int} {sg:Bool} {m:ByteArray} (h:Zp z sg m):zV z=.agg #[.bool sg,.string m]:=by
 unfold zV zR; rw [h.s,h.m]
theorem Zp.ex (z:Int):∃ sg m,Zp z sg m:=⟨_,_,rfl,rfl⟩
theorem Zp.zval {z:Int} {sg:Bool} {m:ByteArray} (h:Zp z sg m):zval sg m=z:=by rw [h.s,h.m]; exact zval_mg z
theorem Zp.nil {z:Int} {sg:Bool} {m:ByteArray} (h:Zp z sg m):m=⟨⟨[]⟩⟩ ↔ z=0:=by rw [h.m,mg_nil]; omega
theorem Zp.bv {z:Int} {sg:Bool} {m:ByteArray} (h:Zp z sg m):bv m=z.natAbs:=by rw [h.m,bv_mg]
theorem Zp.size {neg:Bool} {mag:ByteArray} {sg:Bool} {m:ByteArray} (h:Zp (Sx.zval neg mag) sg m):m.size<=mag.size:=by
 rw [h.m,zval_abs]; exact mg_size_le (bv_lt mag)
theorem Zp.neg {z:Int} {sg:Bool} {m:ByteArray} (h:Zp z sg m):Zp (-z) (!sg && decide (¬ m=⟨⟨[]⟩⟩)) m:=by
 refine ⟨?_,by rw [h.m,Int.natAbs_neg]⟩
 have hd:decide (¬ m=⟨⟨[]⟩⟩)=decide (¬ z=0):=decide_eq_decide.2 (not_congr h.nil)
 rw [hd,h.s,Bool.eq_iff_iff]
 simp
 omega
theorem s_sqn (m z:ByteArray) (hz:z=⟨⟨[]⟩⟩):std.bn (std.sq m z)=decide (¬ m=⟨⟨[]⟩⟩):=by
 rw [s_bn,sq_iff,hz]; simp
theorem rneg_con (neg:Bool) (mag:ByteArray) (h:mag.size<=1099511627776):Con Tryz.prog 300 [.v (zR neg mag)] (.v (zV (- zval neg mag))):=by
 have hc:=rcanon_con neg mag h
 obtain ⟨sg,m,hz⟩:=Zp.ex (zval neg mag)
 have hn:=hz.neg.v
 rw [hz.v] at hc
 obtain ⟨nb,hnb⟩:∃ nb,nb=(!sg && decide (¬ m=⟨⟨[]⟩⟩)):=⟨_,rfl⟩
 rw [<-hnb] at hn
 rw [hn]
 have b1:(!sg)=true->nb=decide (¬ m=⟨⟨[]⟩⟩):=fun h=>by rw [hnb,h]; rfl
 have b2:(!sg)=false->nb=false:=fun h=>by rw [hnb,h]; rfl
 clear hn hz hnb
 unfold zR at hc ⊢
 refine Con.of ttOk mixed Tryz.func300 {} .nil 0 (by kernel_rfl) (fun P' E hP hE=>?_)
 cbv
 refine CallTo.w hP hE hc ⟨rfl,trivial⟩ ?_
 cbv
 refine fork.mk ?_ ?_
 ·intro g1
  cbv
  subst hE
  exact congrArg (fun b=>Value.agg #[.bool b,.string m]) ((s_sqn m _ rfl).trans (b1 g1).symm)
 ·intro g1
  cbv
  subst hE
  rw [b2 g1]
theorem rcmp_con (na nb:Bool) (ma mb:ByteArray) (ha:ma.size<=1099511627776) (hb:mb.size<=1099511627776):Con Tryz.prog 230 [.v (zR na ma),.v (zR nb mb)] (.v (.int .i64 (cmpI (zval na ma) (zval nb mb)))):=by
 have hca:=rcanon_con na ma ha
 have hcb:=rcanon_con nb mb hb
 obtain ⟨r,hr⟩:∃ r,r=cmpI (zval na ma) (zval nb mb):=⟨_,rfl⟩
 rw [<-hr]
 obtain ⟨sa,xa,za⟩:=Zp.ex (zval na ma)
 obtain ⟨sb,xb,zb⟩:=Zp.ex (zval nb mb)
 rw [za.v] at hca
 rw [zb.v] at hcb
 have qa:=za.size
 have qb:=zb.size
 have h1:=cmpM_con (zval na ma).natAbs (zval nb mb).natAbs (by rw [<-za.m]; omega) (by rw [<-zb.m]; omega)
 have h2:=cmpM_con (zval nb mb).natAbs (zval na ma).natAbs (by rw [<-zb.m]; omega) (by rw [<-za.m]; omega)
 rw [<-za.m,<-zb.m] at h1 h2
 have r1:sa=true->sb=false->r = -1:=by
  intro e1 e2
  have e1:=(za.s.symm.trans e1); have e2:=(zb.s.symm.trans e2)
  simp at e1 e2
  rw [hr,cmpI,if_pos (by omega)]
 have r2:sa=false->sb=true->r=1:=by
  intro e1 e2
  have e1:=(za.s.symm.trans e1); have e2:=(zb.s.symm.trans e2)
  simp at e1 e2
  rw [hr,cmpI,if_neg (by omega),if_pos (by omega)]
 have r3:sa=false->sb=false->cmpI ((zval na ma).natAbs:Int) ((zval nb mb).natAbs:Int)=r:=by
  intro e1 e2
  have e1:=(za.s.symm.trans e1); have e2:=(zb.s.symm.trans e2)
  simp at e1 e2
  rw [hr,Int.natAbs_of_nonneg e1,Int.natAbs_of_nonneg e2]
 have r4:sa=true->sb=true->cmpI ((zval nb mb).natAbs:Int) ((zval na ma).natAbs:Int)=r:=by
  intro e1 e2
  have e1:=(za.s.symm.trans e1); have e2:=(zb.s.symm.trans e2)
  simp at e1 e2
  rw [hr]; unfold cmpI
  have a1:((zval na ma).natAbs:Int) = - zval na ma:=by omega
  have a2:((zval nb mb).natAbs:Int) = - zval nb mb:=by omega
  rw [a1,a2]
  by_cases c1:zval na ma < zval nb mb
  ·rw [if_pos c1,if_pos (by omega)]
  ·rw [if_neg c1,if_neg (by omega)]
   by_cases c2:zval na ma > zval nb mb
   ·rw [if_pos c2,if_pos (by omega)]
   ·rw [if_neg c2,if_neg (by omega)]
 obtain ⟨c1,hc1⟩:∃ c,c=cmpI ((zval na ma).natAbs:Int) ((zval nb mb).natAbs:Int):=⟨_,rfl⟩
 obtain ⟨c2,hc2⟩:∃ c,c=cmpI ((zval nb mb).natAbs:Int) ((zval na ma).natAbs:Int):=⟨_,rfl⟩
 rw [<-hc1] at h1 r3
 rw [<-hc2] at h2 r4
 clear hc1 hc2 hr za zb qa qb
 unfold zR at hca hcb ⊢
 refine Con.of ttOk mixed Tryz.func230 { ord:=[(1,[0,2,1,3,4,5])] } .nil 0 (by kernel_rfl) (fun P' E hP hE=>?_)
 cbv
 refine CallTo.w hP hE hca ⟨rfl,trivial⟩ ?_
 cbv
 refine CallTo.w hP hE hcb ⟨rfl,trivial⟩ ?_
 cbv
 have hbq:std.bn (std.bq sa sb) = !(sa == sb):=rfl
 refine fork.mk ?_ ?_
 ·intro g1
  have g1:(!(sa == sb))=true:=by subst hE; exact g1
  cbv
  refine fork.mk ?_ ?_
  ·intro g2
   rw [g2] at g1
   cbv
   rw [r1 g2 (by cases sb<;>simp_all)]
  ·intro g2
   rw [g2] at g1
   cbv
   rw [r2 g2 (by cases sb<;>simp_all)]
 ·intro g1
  have g1:(!(sa == sb))=false:=by subst hE; exact g1
  cbv
  refine fork.mk ?_ ?_
  ·intro g2
   rw [g2] at g1
   cbv
   refine CallTo.w hP hE h2 ⟨rfl,rfl,trivial⟩ ?_
   cbv
   rw [r4 g2 (by cases sb<;>simp_all)]
  ·intro g2
   rw [g2] at g1
   cbv
   refine CallTo.w hP hE h1 ⟨rfl,rfl,trivial⟩ ?_
   cbv
   rw [r3 g2 (by cases sb<;>simp_all)]
theorem rof_con (n:Int) (h0 : -9223372036854775808<=n) (h1:n < 9223372036854775808):Con Tryz.prog 160 [.v (.int .i64 n)] (.v (zV n)):=by
 obtain ⟨sg,m,hz⟩:=Zp.ex n
 rw [hz.v]
 have hp:0<=n->Con Tryz.prog 244 [.v (.int .i64 n)] (.v (.string m))/\sg=false:=by
  intro h
  have:=rmag_con n.toNat (by omega)
  rw [show ((n.toNat:Nat):Int)=n by omega,show n.toNat=n.natAbs by omega,<-hz.m] at this
  exact ⟨this,by rw [hz.s]; simp; omega⟩
 have hm:n = -9223372036854775808->m=⟨#[128,0,0,0,0,0,0,0]⟩/\sg=true:=by
  intro h
  refine ⟨?_,by rw [hz.s]; simp; omega⟩
  have e:bv ⟨#[128,0,0,0,0,0,0,0]⟩=n.natAbs:=by rw [h]; decide
  rw [hz.m,<-e]
  refine dg_ext ?_
  rw [dg_mg]
  exact mgl_dv _ _ rfl (fun d l h=>by
   have h:[128,0,0,0,0,0,0,0]=d::l:=h
   injection h with h1 h2; rw [<-h1]; decide)
 have hneg:n < 0->n ≠ -9223372036854775808->Con Tryz.prog 244 [.v (.int .i64 (-n))] (.v (.string m))/\sg=true:=by
  intro h h'
  have:=rmag_con (-n).toNat (by omega)
  rw [show (((-n).toNat:Nat):Int) = -n by omega,show (-n).toNat=n.natAbs by omega,<-hz.m] at this
  exact ⟨this,by rw [hz.s]; simp; omega⟩
 have hun:n < 0->n ≠ -9223372036854775808->std.un .neg .i64 n = -n:=by
  intro h h'
  rw [s_neg,w64 (by omega) (by omega)]; omega
 have hun2:n = -9223372036854775808->std.un .neg .i64 n=n:=by
  intro h; rw [h]; rfl
 clear hz
 refine Con.of ttOk mixed Tryz.func160 {} .nil 0 (by kernel_rfl) (fun P' E hP hE=>?_)
 cbv
 refine fork.mk ?_ ?_
 ·intro g1
  have g1':0<=n:=by subst hE; exact of_decide_eq_true (show decide (n>=0)=true from g1)
  have hp:=hp g1'
  cbv
  refine CallTo.w hP hE hp.1 ⟨rfl,trivial⟩ ?_
  cbv
  rw [hp.2]
 ·intro g1
  have g1':¬ 0<=n:=by subst hE; exact of_decide_eq_false (show decide (n>=0)=false from g1)
  cbv
  refine fork.mk ?_ ?_
  ·intro g2
   have g2':n = -9223372036854775808:=by
    refine Classical.byContradiction fun h=>?_
    subst hE
    have:=of_decide_eq_true (show decide (n=std.un .neg .i64 n)=true from g2)
    rw [hun (by omega) h] at this
    omega
   have hm:=hm g2'
   cbv
   rw [hm.1,hm.2]
  ·intro g2
   have g2':n ≠ -9223372036854775808:=by
    intro h
    subst hE
    have:=of_decide_eq_false (show decide (n=std.un .neg .i64 n)=false from g2)
    exact this (hun2 h).symm
   have hneg:=hneg (by omega) g2'
   have hun:=hun (by omega) g2'
   cbv
   refine CallTo.con hP hE hneg.1 (by subst hE; exact ⟨congrArg (Value.int .i64) hun,trivial⟩) ?_
   cbv
   rw [hneg.2]
theorem lt8 {m:ByteArray} {b:Bool} {E:Env} (hE:E=std) (h:E.ic .lss (E.sz m) 8=b):b=decide (m.size < 8):=by
 subst hE
 rw [<-h]
 refine decide_eq_decide.2 ?_
 rw [s_sz]; omega
theorem radd_con (na nb:Bool) (ma mb:ByteArray) (ha:ma.size<=1073741824) (hb:mb.size<=1073741824):Con Tryz.prog 236 [.v (zR na ma),.v (zR nb mb)] (.v (zV (zval na ma+zval nb mb))):=by
 have hca:=rcanon_con na ma (by omega)
 have hcb:=rcanon_con nb mb (by omega)
 obtain ⟨z,hz⟩:∃ z,z=zval na ma:=⟨_,rfl⟩
 obtain ⟨w,hw⟩:∃ w,w=zval nb mb:=⟨_,rfl⟩
 obtain ⟨sa,xa,za⟩:=Zp.ex (zval na ma)
 obtain ⟨sb,xb,zb⟩:=Zp.ex (zval nb mb)
 obtain ⟨sr,xr,zr⟩:=Zp.ex (zval na ma+zval nb mb)
 have qa:=za.size
 have qb:=zb.size
 rw [za.v] at hca
 rw [zb.v] at hcb
 rw [zr.v]
 rw [<-hz] at za zr
 rw [<-hw] at zb zr
 have hsmall:xa.size < 8->xb.size < 8->Con Tryz.prog 246 [.v (.agg #[.bool sa,.string xa])] (.v (.int .i64 z))/\Con Tryz.prog 246 [.v (.agg #[.bool sb,.string xb])] (.v (.int .i64 w))/\Con Tryz.prog 160 [.v (.int .i64 (z+w))] (.v (.agg #[.bool sr,.string xr]))/\std.ib .add .i64 z w=z+w:=by
  intro h1 h2
  have v1:=rvalue_con sa xa (by omega)
  have v2:=rvalue_con sb xb (by omega)
  have b1:=zval_small sa xa (by omega)
  have b2:=zval_small sb xb (by omega)
  rw [za.zval] at v1 b1
  rw [zb.zval] at v2 b2
  have v3:=rof_con (z+w) (by omega) (by omega)
  rw [zr.v] at v3
  exact ⟨v1,v2,v3,by rw [s_add,w64 (by omega) (by omega)]⟩
 have hadd:=addMag_con xa xb (by omega) (by omega)
 rw [za.bv,zb.bv] at hadd
 obtain ⟨x1,hx1⟩:∃ x,x=mg (z.natAbs+w.natAbs):=⟨_,rfl⟩
 rw [<-hx1] at hadd
 have r1:sa=sb->sr=sa/\xr=x1:=by
  intro e
  have e1:=za.s; have e2:=zb.s; have e3:=zr.s
  rw [<-e,e1] at e2
  have e2:=decide_eq_decide.1 e2
  refine ⟨?_,?_⟩
  ·rw [e3,e1]; refine decide_eq_decide.2 ?_; omega
  ·rw [zr.m,hx1]; congr 1; omega
 have hcmp:=cmpM_con z.natAbs w.natAbs (by rw [<-za.m]; omega) (by rw [<-zb.m]; omega)
 rw [<-za.m,<-zb.m] at hcmp
 obtain ⟨c,hc⟩:∃ c,c=cmpI (z.natAbs:Int) (w.natAbs:Int):=⟨_,rfl⟩
 rw [<-hc] at hcmp
 have hopp:sa ≠ sb->((z < 0/\0<=w)\/(0<=z/\w < 0)):=by
  intro e
  have e1:=za.s; have e2:=zb.s
  rw [e1,e2] at e
  have:¬ (z < 0 ↔ w < 0):=fun h=>e (decide_eq_decide.2 h)
  omega
 have r2:sa ≠ sb->c=0->sr=false/\xr=⟨⟨[]⟩⟩:=by
  intro e h
  have ho:=hopp e
  have h0:z.natAbs=w.natAbs:=by
   rw [hc,cmpI] at h
   split at h
   ·omega
   ·split at h<;>omega
  have h1:z+w=0:=by omega
  exact ⟨by rw [zr.s,h1]; rfl,zr.nil.2 h1⟩
 have r3:sa ≠ sb->c > 0->sr=sa/\xr=mg (z.natAbs - w.natAbs)/\w.natAbs<=z.natAbs:=by
  intro e h
  have ho:=hopp e
  have h0:z.natAbs > w.natAbs:=by
   rw [hc,cmpI] at h
   split at h
   ·omega
   ·split at h<;>omega
  refine ⟨?_,?_,by omega⟩
  ·rw [zr.s,za.s]; refine decide_eq_decide.2 ?_; omega
  ·rw [zr.m]; congr 1; omega
 have r4:sa ≠ sb->¬ c=0->¬ c > 0->sr=sb/\xr=mg (w.natAbs - z.natAbs)/\z.natAbs<=w.natAbs:=by
  intro e h h'
  have ho:=hopp e
  have h0:z.natAbs < w.natAbs:=by
   refine Decidable.byContradiction fun k=>?_
   rw [cmpI,if_neg (by omega)] at hc
   by_cases e:(z.natAbs:Int) > w.natAbs
   ·rw [if_pos e] at hc; omega
   ·rw [if_neg e] at hc; omega
  refine ⟨?_,?_,by omega⟩
  ·rw [zr.s,zb.s]; refine decide_eq_decide.2 ?_; omega
  ·rw [zr.m]; congr 1; omega
 have hs1:=fun h=>subMag_con xa xb (by omega) (by omega) h
 have hs2:=fun h=>subMag_con xb xa (by omega) (by omega) h
 rw [za.bv,zb.bv] at hs1 hs2
 clear hc za zb zr hx1 qa qb hz hw hopp
 unfold zR at hca hcb ⊢
 refine Con.of ttOk mixed Tryz.func236 { ord:=[(1,[0,2,1,3,4,5]),(3,[0,2,1,3,4,5,6]),(5,[0,1,2,3,4,5,6,7,8]),(10,[0,1,2,3,4,5,6,7,8]),(11,[0,1,2,3,4,5,6,7,8])] } .nil 0 (by kernel_rfl) (fun P' E hP hE=>?_)
 have tail:∀ K:Prop,K->K:=fun _ h=>h
 cbv
 refine CallTo.w hP hE hca ⟨rfl,trivial⟩ ?_
 cbv
 refine CallTo.w hP hE hcb ⟨rfl,trivial⟩ ?_
 cbv
 refine fork.mk ?_ ?_
 ·intro g1
  have g1:xa.size < 8:=of_decide_eq_true (lt8 hE g1).symm
  cbv
  refine fork.mk ?_ ?_
  ·intro g2
   have g2:xb.size < 8:=of_decide_eq_true (lt8 hE g2).symm
   have hs:=hsmall g1 g2
   cbv
   refine CallTo.w hP hE hs.1 ⟨rfl,trivial⟩ ?_
   cbv
   refine CallTo.w hP hE hs.2.1 ⟨rfl,trivial⟩ ?_
   cbv
   refine CallTo.con hP hE hs.2.2.1 (by subst hE; exact ⟨congrArg (Value.int .i64) hs.2.2.2,trivial⟩) ?_
   cbv
  ·intro g2
   cbv
   refine fork.mk ?_ ?_
   ·intro g3
    have g3:sa=sb:=by subst hE; exact beq_iff_eq.1 (show (sa == sb)=true from g3)
    have r1:=r1 g3
    cbv
    refine CallTo.w hP hE hadd ⟨rfl,rfl,trivial⟩ ?_
    cbv
    rw [r1.1,r1.2]
   ·intro g3
    have g3:sa ≠ sb:=by subst hE; exact beq_eq_false_iff_ne.1 (show (sa == sb)=false from g3)
    have r2:=r2 g3
    have r3:=r3 g3
    have r4:=r4 g3
    cbv
    refine CallTo.w hP hE hcmp ⟨rfl,rfl,trivial⟩ ?_
    cbv
    refine fork.mk ?_ ?_
    ·intro g4
     have g4:c=0:=by subst hE; exact of_decide_eq_true (show decide (c=0)=true from g4)
     have r2:=r2 g4
     cbv
     rw [r2.1,r2.2]
    ·intro g4
     have g4:¬ c=0:=by subst hE; exact of_decide_eq_false (show decide (c=0)=false from g4)
     cbv
     refine fork.mk ?_ ?_
     ·intro g5
      have g5:c > 0:=by subst hE; exact of_decide_eq_true (show decide (c > 0)=true from g5)
      have r3:=r3 g5
      have hs1:=hs1 r3.2.2
      rw [<-r3.2.1] at hs1
      cbv
      refine CallTo.w hP hE hs1 ⟨rfl,rfl,trivial⟩ ?_
      cbv
      rw [r3.1]
     ·intro g5
      have g5:¬ c > 0:=by subst hE; exact of_decide_eq_false (show decide (c > 0)=false from g5)
      have r4:=r4 g4 g5
      have hs2:=hs2 r4.2.2
      rw [<-r4.2.1] at hs2
      cbv
      refine CallTo.w hP hE hs2 ⟨rfl,rfl,trivial⟩ ?_
      cbv
      rw [r4.1]
 ·intro g1
  cbv
  refine fork.mk ?_ ?_
  ·intro g3
   have g3:sa=sb:=by subst hE; exact beq_iff_eq.1 (show (sa == sb)=true from g3)
   have r1:=r1 g3
   cbv
   refine CallTo.w hP hE hadd ⟨rfl,rfl,trivial⟩ ?_
   cbv
   rw [r1.1,r1.2]
  ·intro g3
   have g3:sa ≠ sb:=by subst hE; exact beq_eq_false_iff_ne.1 (show (sa == sb)=false from g3)
   have r2:=r2 g3
   have r3:=r3 g3
   have r4:=r4 g3
   cbv
   refine CallTo.w hP hE hcmp ⟨rfl,rfl,trivial⟩ ?_
   cbv
   refine fork.mk ?_ ?_
   ·intro g4
    have g4:c=0:=by subst hE; exact of_decide_eq_true (show decide (c=0)=true from g4)
    have r2:=r2 g4
    cbv
    rw [r2.1,r2.2]
   ·intro g4
    have g4:¬ c=0:=by subst hE; exact of_decide_eq_false (show decide (c=0)=false from g4)
    cbv
    refine fork.mk ?_ ?_
    ·intro g5
     have g5:c > 0:=by subst hE; exact of_decide_eq_true (show decide (c > 0)=true from g5)
     have r3:=r3 g5
     have hs1:=hs1 r3.2.2
     rw [<-r3.2.1] at hs1
     cbv
     refine CallTo.w hP hE hs1 ⟨rfl,rfl,trivial⟩ ?_
     cbv
     rw [r3.1]
    ·intro g5
     have g5:¬ c > 0:=by subst hE; exact of_decide_eq_false (show decide (c > 0)=false from g5)
     have r4:=r4 g4 g5
     have hs2:=hs2 r4.2.2
     rw [<-r4.2.1] at hs2
     cbv
     refine CallTo.w hP hE hs2 ⟨rfl,rfl,trivial⟩ ?_
     cbv
     rw [r4.1]
theorem rmul_con (na nb:Bool) (ma mb:ByteArray) (ha:ma.size<=1073741824) (hb:mb.size<=1073741824):Con Tryz.prog 161 [.v (zR na ma),.v (zR nb mb)] (.v (zV (zval na ma*zval nb mb))):=by
 have hca:=rcanon_con na ma (by omega)
 have hcb:=rcanon_con nb mb (by omega)
 obtain ⟨z,hz⟩:∃ z,z=zval na ma:=⟨_,rfl⟩
 obtain ⟨w,hw⟩:∃ w,w=zval nb mb:=⟨_,rfl⟩
 obtain ⟨sa,xa,za⟩:=Zp.ex (zval na ma)
 obtain ⟨sb,xb,zb⟩:=Zp.ex (zval nb mb)
 obtain ⟨sr,xr,zr⟩:=Zp.ex (zval na ma*zval nb mb)
 have qa:=za.size
 have qb:=zb.size
 rw [za.v] at hca
 rw [zb.v] at hcb
 rw [zr.v]
 rw [<-hz] at za
 rw [<-hw] at zb
 rw [<-hz,<-hw] at zr
 have hzero:xa=⟨⟨[]⟩⟩\/xb=⟨⟨[]⟩⟩->sr=false/\xr=⟨⟨[]⟩⟩:=by
  intro h
  have h1:z*w=0:=by
   rcases h with h | h
   ·rw [za.nil.1 h]; simp
   ·rw [zb.nil.1 h]; simp
  exact ⟨by rw [zr.s,h1]; rfl,zr.nil.2 h1⟩
 have hsmall:std.ic .lss (std.ib .add .i64 (std.sz xa) (std.sz xb)) 8=true->Con Tryz.prog 246 [.v (.agg #[.bool sa,.string xa])] (.v (.int .i64 z))/\Con Tryz.prog 246 [.v (.agg #[.bool sb,.string xb])] (.v (.int .i64 w))/\Con Tryz.prog 160 [.v (.int .i64 (z*w))] (.v (.agg #[.bool sr,.string xr]))/\std.ib .mul .i64 z w=z*w:=by
  intro h
  rw [s_add,s_sz,s_sz,w64 (by omega) (by omega),s_lss] at h
  have h:=of_decide_eq_true h
  have v1:=rvalue_con sa xa (by omega)
  have v2:=rvalue_con sb xb (by omega)
  rw [za.zval] at v1
  rw [zb.zval] at v2
  have hn:(z*w).natAbs < 72057594037927936:=by
   have h1:=bv_lt xa
   have h2:=bv_lt xb
   rw [za.bv] at h1
   rw [zb.bv] at h2
   rw [Int.natAbs_mul]
   have h3:=Nat.mul_lt_mul'' h1 h2
   rw [<-Nat.pow_add] at h3
   have h4:=pow256_mono (show xa.size+xb.size<=7 by omega)
   have h5:(256:Nat) ^ 7=72057594037927936:=by decide
   omega
  have v3:=rof_con (z*w) (by omega) (by omega)
  rw [zr.v] at v3
  exact ⟨v1,v2,v3,by rw [s_mul,w64 (by omega) (by omega)]⟩
 have hmul:=mulMag_con xa xb (by omega) (by omega)
 rw [za.bv,zb.bv,<-Int.natAbs_mul,<-zr.m] at hmul
 have hsign:¬ xa=⟨⟨[]⟩⟩->¬ xb=⟨⟨[]⟩⟩->(!(sa == sb))=sr:=by
  intro h1 h2
  have h1:=fun e=>h1 (za.nil.2 e)
  have h2:=fun e=>h2 (zb.nil.2 e)
  rw [za.s,zb.s,zr.s]
  rcases Int.lt_or_lt_of_ne h1 with c1 | c1<;>rcases Int.lt_or_lt_of_ne h2 with c2 | c2
  ·have:=Int.mul_pos_of_neg_of_neg c1 c2
   simp [c1,c2]; omega
  ·have:=Int.mul_neg_of_neg_of_pos c1 c2
   simp [c1,this]; omega
  ·have:=Int.mul_neg_of_pos_of_neg c1 c2
   simp [c2,this]; omega
  ·have:=Int.mul_pos c1 c2
   have e1:¬ z < 0:=by omega
   have e2:¬ w < 0:=by omega
   have e3:¬ z*w < 0:=by omega
   simp [e1,e2,e3]
 clear za zb zr qa qb hz hw
 have hsq:∀ m:ByteArray,std.sq m ⟨⟨[]⟩⟩=decide (m=⟨⟨[]⟩⟩):=fun m=>sq_iff
 unfold zR at hca hcb ⊢
 refine Con.of ttOk mixed Tryz.func161 { ord:=[(1,[0,2,1,3,4,5]),(5,[0,2,1,3,4,5,6]),(6,[0,1,2,3,4,5,6,7,8,9,10,11])] } .nil 0 (by kernel_rfl) (fun P' E hP hE=>?_)
 cbv
 refine CallTo.w hP hE hca ⟨rfl,trivial⟩ ?_
 cbv
 refine CallTo.w hP hE hcb ⟨rfl,trivial⟩ ?_
 cbv
 refine fork.mk ?_ ?_
 ·intro g1
  have g1:xa=⟨⟨[]⟩⟩:=by subst hE; exact of_decide_eq_true ((hsq xa).symm.trans g1)
  have hz:=hzero (.inl g1)
  cbv
  rw [hz.1,hz.2]
 ·intro g1
  have g1:¬ xa=⟨⟨[]⟩⟩:=by subst hE; exact of_decide_eq_false ((hsq xa).symm.trans g1)
  cbv
  refine fork.mk ?_ ?_
  ·intro g2
   have g2:xb=⟨⟨[]⟩⟩:=by subst hE; exact of_decide_eq_true ((hsq xb).symm.trans g2)
   have hz:=hzero (.inr g2)
   cbv
   rw [hz.1,hz.2]
  ·intro g2
   have g2:¬ xb=⟨⟨[]⟩⟩:=by subst hE; exact of_decide_eq_false ((hsq xb).symm.trans g2)
   have hsign:=hsign g1 g2
   cbv
   refine fork.mk ?_ ?_
   ·intro g3
    have hs:=hsmall (by subst hE; exact g3)
    cbv
    refine CallTo.w hP hE hs.1 ⟨rfl,trivial⟩ ?_
    cbv
    refine CallTo.w hP hE hs.2.1 ⟨rfl,trivial⟩ ?_
    cbv
    refine CallTo.con hP hE hs.2.2.1 (by subst hE; exact ⟨congrArg (Value.int .i64) hs.2.2.2,trivial⟩) ?_
    cbv
   ·intro g3
    cbv
    refine CallTo.w hP hE hmul ⟨rfl,rfl,trivial⟩ ?_
    cbv
    subst hE
    exact congrArg (fun b=>Value.agg #[.bool b,.string xr]) hsign
theorem fork.ya {b:Bool} {x y:Unit->Prop} (h:b=true) (hx:x ()):fork b x y:=⟨fun _=>hx,fun e=>by rw [h] at e; cases e⟩
theorem fork.na {b:Bool} {x y:Unit->Prop} (h:b=false) (hy:y ()):fork b x y:=⟨fun e=>(by rw [h] at e; cases e),fun _=>hy⟩
theorem s_sqt (y:ByteArray) (h:y=⟨⟨[]⟩⟩):std.sq y ⟨⟨[]⟩⟩=true:=by rw [sq_iff]; exact decide_eq_true h
theorem s_sqf (y:ByteArray) (h:¬ y=⟨⟨[]⟩⟩):std.sq y ⟨⟨[]⟩⟩=false:=by rw [sq_iff]; exact decide_eq_false h
theorem rgcd_con (na nb:Bool) (ma mb:ByteArray) (ha:ma.size<=536870912) (hb:mb.size<=536870912):Con Tryz.prog 301 [.v (zR na ma),.v (zR nb mb)] (.v (zV (Nat.gcd (bv ma) (bv mb):Nat))):=by
 have t1:=rtrim_con ma (by omega)
 have t2:=rtrim_con mb (by omega)
 obtain ⟨G,hG0⟩:∃ G,G=Nat.gcd (bv ma) (bv mb):=⟨_,rfl⟩
 rw [<-hG0]
 obtain ⟨sr,xr,zr⟩:=Zp.ex (G:Int)
 have hG:=zr.v
 rw [hG]
 have hsr:sr=false:=by rw [zr.s]; simp
 have hxr:xr=mg G:=zr.m
 subst hsr
 obtain ⟨x0,hx0⟩:∃ x,x=mg (bv ma):=⟨_,rfl⟩
 obtain ⟨y0,hy0⟩:∃ x,x=mg (bv mb):=⟨_,rfl⟩
 rw [<-hx0] at t1
 rw [<-hy0] at t2
 have hz:x0=mg (bv x0)/\y0=mg (bv y0)/\Nat.gcd (bv x0) (bv y0)=G/\x0.size<=536870912/\y0.size<=536870912:=by
  rw [hx0,hy0,bv_mg,bv_mg]
  have q1:(mg (bv ma)).size<=ma.size:=mg_size_le (bv_lt ma)
  have q2:(mg (bv mb)).size<=mb.size:=mg_size_le (bv_lt mb)
  exact ⟨rfl,rfl,hG0.symm,by omega,by omega⟩
 clear hx0 hy0 hG0 zr
 unfold zR
 refine Con.of ttOk mixed Tryz.func301 { ord:=[(1,[0,1,3,4,2,5,6,7]),(9,[0,1,2,3,4,5])] } .nil 0 (by kernel_rfl) (fun P' E hP hE=>?_)
 cbv
 refine CallTo.w hP hE t1 ⟨rfl,trivial⟩ ?_
 cbv
 refine CallTo.w hP hE t2 ⟨rfl,trivial⟩ ?_
 cbv
 refine LoopTo.by (ι:=ByteArray × ByteArray) (fun x=>[(5,.v (.string x.1)),(6,.v (.string x.2))]) (fun x=>[]) (fun x=>x.1=mg (bv x.1)/\x.2=mg (bv x.2)/\Nat.gcd (bv x.1) (bv x.2)=G/\x.1.size<=536870912/\x.2.size<=536870912) (fun x=>bv x.2) (x0,y0) [] hz ?_ ?_
 ·cbv
  simp only [and_self]
 ·rintro ⟨x,y⟩ hi
  have hi1:x=mg (bv x):=hi.1
  have hi2:y=mg (bv y):=hi.2.1
  have hi3:Nat.gcd (bv x) (bv y)=G:=hi.2.2.1
  have hi4:x.size<=536870912:=hi.2.2.2.1
  have hi5:y.size<=536870912:=hi.2.2.2.2
  clear hi hz
  cbv
  refine fork.mk ?_ ?_
  ·intro gy0
   have gy:¬ y=⟨⟨[]⟩⟩:=by subst hE; exact of_decide_eq_true ((s_sqn y _ rfl).symm.trans gy0)
   clear gy0
   cbv
   refine fork.mk ?_ ?_
   ·intro g2
    clear g2
    have hi4:x.size<=536870912:=hi4
    have hi5:y.size<=536870912:=hi5
    have hy:0 < bv y:=by
     refine Nat.pos_of_ne_zero fun e=>?_
     exact gy (by rw [hi2,e]; exact mg_nil.2 rfl)
    have hd:=divMag_con x (bv y) 536870912 (by omega) (by rw [<-hi2]; omega) (Nat.le_refl _) hy
    rw [<-hi2] at hd
    refine exVar (mg (bv x / bv y)) ?_; intro q hq
    refine exVar (mg (bv x % bv y)) ?_; intro r hr
    rw [<-hq,<-hr] at hd
    have hbr:bv r=bv x % bv y:=by rw [hr,bv_mg]
    have hlt:bv r < bv y:=by rw [hbr]; exact Nat.mod_lt _ hy
    have hrs:r.size<=536870912:=by
     have:r.size<=y.size:=by rw [hr,<-hbr]; exact mg_size_le (Nat.lt_trans hlt (bv_lt y))
     omega
    have hq2:y=mg (bv y)/\r=mg (bv r)/\Nat.gcd (bv y) (bv r)=G/\y.size<=536870912/\r.size<=536870912:=by
     refine ⟨hi2,by rw [hbr]; exact hr,?_,hi5,hrs⟩
     rw [hbr,<-hi3,Nat.gcd_comm (bv y),<-Nat.gcd_rec,Nat.gcd_comm]
    clear hr hq hbr hrs
    cbv
    refine CallTo.w hP hE hd ⟨rfl,rfl,trivial⟩ ?_
    cbv
    refine ⟨(y,r),[],hq2,hlt,?_⟩
    cbv
    simp only [and_self]
   ·intro g2
    have g2:¬ x.size > 7:=by subst hE; have:=of_decide_eq_false (show decide ((x.size:Int) > 7)=false from g2); omega
    cbv
    refine fork.mk ?_ ?_
    ·intro g3
     clear g3
     have hi4:x.size<=536870912:=hi4
     have hi5:y.size<=536870912:=hi5
     have hy:0 < bv y:=by
      refine Nat.pos_of_ne_zero fun e=>?_
      exact gy (by rw [hi2,e]; exact mg_nil.2 rfl)
     have hd:=divMag_con x (bv y) 536870912 (by omega) (by rw [<-hi2]; omega) (Nat.le_refl _) hy
     rw [<-hi2] at hd
     refine exVar (mg (bv x / bv y)) ?_; intro q hq
     refine exVar (mg (bv x % bv y)) ?_; intro r hr
     rw [<-hq,<-hr] at hd
     have hbr:bv r=bv x % bv y:=by rw [hr,bv_mg]
     have hlt:bv r < bv y:=by rw [hbr]; exact Nat.mod_lt _ hy
     have hrs:r.size<=536870912:=by
      have:r.size<=y.size:=by rw [hr,<-hbr]; exact mg_size_le (Nat.lt_trans hlt (bv_lt y))
      omega
     have hq2:y=mg (bv y)/\r=mg (bv r)/\Nat.gcd (bv y) (bv r)=G/\y.size<=536870912/\r.size<=536870912:=by
      refine ⟨hi2,by rw [hbr]; exact hr,?_,hi5,hrs⟩
      rw [hbr,<-hi3,Nat.gcd_comm (bv y),<-Nat.gcd_rec,Nat.gcd_comm]
     clear hr hq hbr hrs
     cbv
     refine CallTo.w hP hE hd ⟨rfl,rfl,trivial⟩ ?_
     cbv
     refine ⟨(y,r),[],hq2,hlt,?_⟩
     cbv
     simp only [and_self]
    ·intro g3
     have g3:¬ y.size > 7:=by subst hE; have:=of_decide_eq_false (show decide ((y.size:Int) > 7)=false from g3); omega
     refine exVar ((bv x:Nat):Int) ?_; intro m0 hm0
     refine exVar ((bv y:Nat):Int) ?_; intro n0 hn0
     have s1:=rsmall_con x (by omega)
     have s2:=rsmall_con y (by omega)
     rw [<-hm0] at s1
     rw [<-hn0] at s2
     have hb1:=zval_small false x (by omega)
     have hb2:=zval_small false y (by omega)
     have hz2:0<=m0/\0<=n0/\m0 < 72057594037927936/\n0 < 72057594037927936/\Nat.gcd m0.toNat n0.toNat=G:=by
      have e1:zval false x=m0:=by rw [hm0]; rfl
      have e2:zval false y=n0:=by rw [hn0]; rfl
      rw [e1] at hb1
      rw [e2] at hb2
      refine ⟨by omega,by omega,by omega,by omega,?_⟩
      rw [hm0,hn0]; exact hi3
     clear hb1 hb2
     cbv
     refine fork.na (by subst hE; exact (s_sqf y gy)) ?_
     cbv
     refine CallTo.w hP hE s1 ⟨rfl,trivial⟩ ?_
     cbv
     refine CallTo.w hP hE s2 ⟨rfl,trivial⟩ ?_
     cbv
     refine LoopTo.by (ι:=Int × Int) (fun x=>[(9,.v (.int .i64 x.1)),(10,.v (.int .i64 x.2))]) (fun x=>[]) (fun x=>0<=x.1/\0<=x.2/\x.1 < 72057594037927936/\x.2 < 72057594037927936/\Nat.gcd x.1.toNat x.2.toNat=G) (fun x=>x.2.toNat) (m0,n0) [] hz2 ?_ ?_
     ·cbv
      simp only [and_self]
     ·rintro ⟨m,n⟩ hk
      have k1:0<=m:=hk.1
      have k2:0<=n:=hk.2.1
      have k3:m < 72057594037927936:=hk.2.2.1
      have k4:n < 72057594037927936:=hk.2.2.2.1
      have k5:Nat.gcd m.toNat n.toNat=G:=hk.2.2.2.2
      clear hk hz2
      cbv
      refine fork.mk ?_ ?_
      ·intro g5
       have k1:0<=m:=k1
       have k2:0<=n:=k2
       have k4:n < 72057594037927936:=k4
       have g5:0 < n:=by subst hE; exact of_decide_eq_true (show decide (n > 0)=true from g5)
       refine exVar (m % n) ?_; intro r hr
       have hr0:=Int.emod_nonneg m (show n ≠ 0 by omega)
       have hr1:=Int.emod_lt_of_pos m g5
       have hrem:std.ib .rem .i64 m n=r:=by rw [s_rem,hr]; exact Int.tmod_eq_emod_of_nonneg k1
       have hnz:std.nz .rem n:=by show n ≠ 0; omega
       have hq:0<=n/\0<=r/\n < 72057594037927936/\r < 72057594037927936/\Nat.gcd n.toNat r.toNat=G:=by
        refine ⟨k2,by omega,k4,by omega,?_⟩
        have e:r.toNat=m.toNat % n.toNat:=by
         rw [hr]
         have h1:m=(m.toNat:Int):=by omega
         have h2:n=(n.toNat:Int):=by omega
         rw [h1,h2,<-Int.natCast_emod]
         rfl
        rw [e,<-k5,Nat.gcd_comm n.toNat,<-Nat.gcd_rec,Nat.gcd_comm]
       have hmu:r.toNat < n.toNat:=by omega
       clear hr hr0 hr1
       cbv
       repeat (refine Need.mk (by subst hE; first | exact hnz | (simp; done)) ?_; cbv)
       refine ⟨(n,r),[],hq,hmu,?_⟩
       cbv
       subst hE
       and_intros
       all_goals first
        | rfl
        | exact True.intro
        | exact vi hrem
        | (simp; done)
      ·intro g5
       have k1:0<=m:=k1
       have k2:0<=n:=k2
       have k3:m < 72057594037927936:=k3
       have g5:¬ 0 < n:=by subst hE; exact of_decide_eq_false (show decide (n > 0)=false from g5)
       have hn:n.toNat=0:=by omega
       rw [hn,Nat.gcd_zero_right] at k5
       have ho:=rof_con m (by omega) (by omega)
       rw [show m=(G:Int) by omega,hG] at ho
       have hmG:m=(G:Int):=by omega
       subst hmG
       cbv
       refine CallTo.w hP hE ho ⟨rfl,trivial⟩ ?_
       cbv
  ·intro gy1
   have gy0:y=⟨⟨[]⟩⟩:=by subst hE; exact Classical.not_not.1 (of_decide_eq_false ((s_sqn y _ rfl).symm.trans gy1))
   clear gy1
   have h0:bv y=0:=by rw [gy0]; rfl
   have hx:x=xr:=by
    have e:bv x=G:=by rw [h0,Nat.gcd_zero_right] at hi3; exact hi3
    rw [hi1,e,hxr]
   cbv
   refine fork.ya (by subst hE; exact (s_sqt y gy0)) ?_
   cbv
   rw [hx]
end Go.Proofs.YtkipmmiiackdaaaGreat.Sx
