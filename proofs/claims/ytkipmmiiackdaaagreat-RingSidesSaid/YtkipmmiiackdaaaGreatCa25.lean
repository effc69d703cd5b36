/- Part 25 of what the statement needs: an executor of Go texts, arithmetic, and contracts of the functions that are called. -/
import Derived.Test.YtkipmmiiackdaaaGreatCa24
set_option linter.unusedSimpArgs false
set_option linter.unusedVariables false
set_option maxHeartbeats 8000000
set_option maxRecDepth 100000
namespace Go.Proofs.YtkipmmiiackdaaaGreat.Sx
open Env (std)
theorem rd_dig {a:ByteArray} {i:Int} (h:a.size<=1073741824) (h0:1<=i) (h1:i<=a.size):std.cv .i64 (std.sa a (std.ib .sub .i64 (std.sz a) i))=((dig8 (bv a) (i - 1).toNat:Nat):Int):=by
 have e1:std.ib .sub .i64 (std.sz a) i=(a.size:Int) - i:=by rw [s_sub,s_sz,w64 (by omega) (by omega)]
 have hb:((dg a).getD ((a.size:Int) - i).toNat 0).toNat < 256:=UInt8.toNat_lt _
 rw [e1,s_cv,s_sa,dg_get,w64 (by omega) (by omega)]
 have h2:=dig8_at (l:=dg a) (j:=(i - 1).toNat) (by rw [<-dg_size]; omega)
 rw [<-dg_size] at h2
 have e2:((a.size:Int) - i).toNat=a.size - 1 - (i - 1).toNat:=by omega
 rw [e2,h2]; rfl
theorem rd_dig0 {a:ByteArray} {i:Int} (h0:1<=i) (h1:¬ i<=a.size):dig8 (bv a) (i - 1).toNat=0:=by
 refine dig8_zero (k:=a.size) (bv_lt a) (by omega)
theorem rd_in {a:ByteArray} {i:Int} (h:a.size<=1073741824) (h0:1<=i) (h1:i<=a.size):std.inb (std.ib .sub .i64 (std.sz a) i) (std.sz a):=by
 have e1:std.ib .sub .i64 (std.sz a) i=(a.size:Int) - i:=by rw [s_sub,s_sz,w64 (by omega) (by omega)]
 rw [e1,s_inb,s_sz]; omega
theorem b2s_bval {o:List Int} (h:Ok8 o):∃ s,std.b2s Int (fun x=>[.int .u8 x]) o=s/\((bv s:Nat):Int)=bval o/\s.size=o.length:=by
 refine ⟨_,rfl,?_,?_⟩
 ·rw [<-dv_by8 h]
  congr 1
  show dv (((o.flatMap fun x=>[Value.int .u8 x]).map byteOf).toArray.toList)=_
  rw [show (((o.flatMap fun x=>[Value.int .u8 x]).map byteOf).toArray.toList)=by8 o from flat8 o]
 ·rw [dg_size]
  show (((o.flatMap fun x=>[Value.int .u8 x]).map byteOf).toArray.toList).length=_
  rw [show (((o.flatMap fun x=>[Value.int .u8 x]).map byteOf).toArray.toList)=by8 o from flat8 o]
  simp [by8]
theorem addMag_con (a b:ByteArray) (ha:a.size<=1073741824) (hb:b.size<=1073741824):Con Tryz.prog 295 [.v (.string a),.v (.string b)] (.v (.string (mg (bv a+bv b)))):=by
 obtain ⟨N,hN⟩:∃ n:Nat,n=max a.size b.size+1:=⟨_,rfl⟩
 obtain ⟨n,hn⟩:∃ n:Int,n=N:=⟨_,rfl⟩
 obtain ⟨res,hres⟩:∃ r,r=mg (bv a+bv b):=⟨_,rfl⟩
 rw [<-hres]
 obtain ⟨i0,hi0⟩:∃ i:Int,i=1:=⟨_,rfl⟩
 obtain ⟨c0,hc0⟩:∃ i:Int,i=0:=⟨_,rfl⟩
 obtain ⟨o0,ho0⟩:∃ o:List Int,o=List.replicate N 0:=⟨_,rfl⟩
 have hz:1<=i0/\i0<=n+1/\RaInv (bv a) (bv b) N (i0 - 1).toNat c0 o0:=by
  subst hi0 hc0 ho0
  exact ⟨by omega,by omega,RaInv.zero _ _ _⟩
 have hmax:std.ib .add .i64 (std.mm true (std.sz a) (std.sz b)) 1=n:=by
  rw [s_mx,s_sz,s_sz,s_add]
  split<;>(rw [w64 (by omega) (by omega)]; omega)
 have hmk:std.rng 0 (std.ib .add .i64 (std.mm true (std.sz a) (std.sz b)) 1) (std.ib .add .i64 (std.mm true (std.sz a) (std.sz b)) 1)/\std.fits (std.ib .add .i64 (std.mm true (std.sz a) (std.sz b)) 1) 1:=by rw [hmax,s_rng,s_fits]; omega
 have hrep:std.rep Int n 0=o0:=by rw [s_rep,ho0,hn]; rfl
 have hlast:∀ c o,RaInv (bv a) (bv b) N N c o->∃ s,std.b2s Int (fun x=>[.int .u8 x]) (std.tk Int o n)=s/\s.size<=1099511627776/\mg (bv s)=res:=by
  intro c o h
  have h1:=bv_lt a
  have h2:=bv_lt b
  have h3:=pow256_mono (show a.size<=N - 1 by omega)
  have h4:=pow256_mono (show b.size<=N - 1 by omega)
  have h5:256 ^ N=256*256 ^ (N - 1):=by rw [<-Nat.pow_succ',show (N - 1).succ=N by omega]
  have h6:=h.last (by omega) (by omega)
  obtain ⟨s,e1,e2,e3⟩:=b2s_bval h.ok
  refine ⟨s,?_,by rw [e3,h.len]; omega,?_⟩
  ·rw [s_tk,List.take_of_length_le (by rw [h.len]; omega)]; exact e1
  ·rw [hres]; congr 1; omega
 refine Con.of ttOk mixed Tryz.func295 {} .nil 0 (by kernel_rfl) (fun P' E hP hE=>?_)
 cbv
 refine Need.mk (by subst hE; exact hmk) ?_
 cbv
 refine LoopTo.by (ι:=Int × Int × List Int) (fun x=>[(8,.v (.int .i64 x.1)),(7,.v (.int .i64 x.2.1)),(5,.v (.int .i64 n)),(6,.s 2 n)]) (fun x=>[(2,.row true 5 (cInt .u8) x.2.2)]) (fun x=>1<=x.1/\x.1<=n+1/\RaInv (bv a) (bv b) N (x.1 - 1).toNat x.2.1 x.2.2) (fun x=>(n+1 - x.1).toNat) (i0,c0,o0) [] hz ?_ ?_
 ·cbv
  subst hE
  and_intros
  all_goals first
   | rfl
   | exact True.intro
   | exact vj hi0.symm
   | exact vi hi0.symm
   | exact vj hc0.symm
   | exact vi hc0.symm
   | exact vi hmax
   | exact congrArg (AV.s 2) hmax
   | exact Sm.of ((congrArg (fun x=>std.rep Int x 0) hmax).trans hrep)
   | (simp; done)
 ·rintro ⟨i,c,o⟩ hi
  have h1:1<=i:=hi.1
  have h2:i<=n+1:=hi.2.1
  have h3:RaInv (bv a) (bv b) N (i - 1).toNat c o:=hi.2.2
  have hn:n=(N:Int):=hn
  clear hi hz hrep ho0
  cbv
  refine fork.mk ?_ ?_
  ·intro g1
   have hn:n=(N:Int):=hn
   have h1:1<=i:=h1
   have h2:i<=n+1:=h2
   have hN:N=max a.size b.size+1:=hN
   have hlt:i<=n:=by subst hE; exact of_decide_eq_true (show decide (i<=n)=true from g1)
   have hc0:=h3.c0
   have hc1:=h3.c1
   have hd1:=dig8_lt (bv a) (i - 1).toNat
   have hd2:=dig8_lt (bv b) (i - 1).toNat
   have hstep:=h3.step (s:=c+dig8 (bv a) (i - 1).toNat+dig8 (bv b) (i - 1).toNat) (by omega) rfl
   have hj:(i - 1).toNat+1=(i+1 - 1).toNat:=by omega
   rw [hj] at hstep
   refine exVar (i+1) ?_
   intro i' hi'
   refine exVar ((c+dig8 (bv a) (i - 1).toNat+dig8 (bv b) (i - 1).toNat) / 256) ?_
   intro c' hc'
   refine exVar (o.set (N - (i+1 - 1).toNat) ((c+dig8 (bv a) (i - 1).toNat+dig8 (bv b) (i - 1).toNat) % 256)) ?_
   intro o' ho'
   rw [<-hc',<-ho',<-hi'] at hstep
   have hii:std.ib .add .i64 i 1=i':=by rw [s_add,w64 (by omega) (by omega),hi']
   have hsub:std.ib .sub .i64 n i=n - i:=by rw [s_sub,w64 (by omega) (by omega)]
   have hinn:std.inb (std.ib .sub .i64 n i) n:=by rw [hsub,s_inb]; omega
   have hset:∀ S,S=c+dig8 (bv a) (i - 1).toNat+dig8 (bv b) (i - 1).toNat->std.set Int o (std.ib .sub .i64 n i) (std.cv .u8 S)=o':=by
    intro S hS
    rw [hsub,s_set,s_cv,IntKind.wrap_u8,ho',hS]
    congr 1
    omega
   have hshr:∀ S,S=c+dig8 (bv a) (i - 1).toNat+dig8 (bv b) (i - 1).toNat->std.ib .shr .i64 S 8=c':=by
    intro S hS
    rw [hc',hS]
    exact Int.fdiv_eq_ediv_of_nonneg _ (by decide)
   have hmu:(n+1 - i').toNat < (n+1 - i).toNat:=by omega
   have hq:1<=i'/\i'<=n+1/\RaInv (bv a) (bv b) N (i' - 1).toNat c' o':=⟨by omega,by omega,hstep⟩
   clear ho' hc' hstep h3
   cbv
   refine fork.mk ?_ ?_
   ·intro ga0
    have ga:i<=a.size:=by subst hE; exact of_decide_eq_true (show decide (i<=(a.size:Int))=true from ga0)
    clear ga0
    cbv
    refine Need.mk (by subst hE; exact rd_in ha h1 ga) ?_
    cbv
    refine fork.mk ?_ ?_
    ·intro gb0
     have gb:i<=b.size:=by subst hE; exact of_decide_eq_true (show decide (i<=(b.size:Int))=true from gb0)
     clear gb0
     cbv
     refine Need.mk (by subst hE; exact rd_in hb h1 gb) ?_
     cbv
     repeat (refine Need.mk (by subst hE; first | exact hinn | (simp; done)) ?_; cbv)
     have hS:std.ib .add .i64 (std.ib .add .i64 c (std.cv .i64 (std.sa a (std.ib .sub .i64 (std.sz a) i)))) (std.cv .i64 (std.sa b (std.ib .sub .i64 (std.sz b) i)))=c+dig8 (bv a) (i - 1).toNat+dig8 (bv b) (i - 1).toNat:=by
      rw [s_add,s_add,rd_dig ha h1 ga,rd_dig hb h1 gb,w64 (n:=c+(dig8 (bv a) (i - 1).toNat:Nat)) (by omega) (by omega),w64 (by omega) (by omega)]
     have hset':=hset _ hS
     have hshr':=hshr _ hS
     refine ⟨(i',c',o'),[],hq,hmu,?_⟩
     cbv
     subst hE
     and_intros
     all_goals first
      | rfl
      | exact True.intro
      | exact Sm.of hset'
      | exact vi hshr'
      | exact vi hii
      | (simp; done)
    ·intro gb0
     have gb:¬ i<=b.size:=by subst hE; exact of_decide_eq_false (show decide (i<=(b.size:Int))=false from gb0)
     clear gb0
     cbv
     repeat (refine Need.mk (by subst hE; first | exact hinn | (simp; done)) ?_; cbv)
     have hS:std.ib .add .i64 c (std.cv .i64 (std.sa a (std.ib .sub .i64 (std.sz a) i)))=c+dig8 (bv a) (i - 1).toNat+dig8 (bv b) (i - 1).toNat:=by
      have e2:=rd_dig0 h1 gb
      rw [s_add,rd_dig ha h1 ga,w64 (n:=c+(dig8 (bv a) (i - 1).toNat:Nat)) (by omega) (by omega)]
      omega
     have hset':=hset _ hS
     have hshr':=hshr _ hS
     refine ⟨(i',c',o'),[],hq,hmu,?_⟩
     cbv
     subst hE
     and_intros
     all_goals first
      | rfl
      | exact True.intro
      | exact Sm.of hset'
      | exact vi hshr'
      | exact vi hii
      | (simp; done)
   ·intro ga0
    have ga:¬ i<=a.size:=by subst hE; exact of_decide_eq_false (show decide (i<=(a.size:Int))=false from ga0)
    clear ga0
    cbv
    refine fork.mk ?_ ?_
    ·intro gb0
     have gb:i<=b.size:=by subst hE; exact of_decide_eq_true (show decide (i<=(b.size:Int))=true from gb0)
     clear gb0
     cbv
     refine Need.mk (by subst hE; exact rd_in hb h1 gb) ?_
     cbv
     repeat (refine Need.mk (by subst hE; first | exact hinn | (simp; done)) ?_; cbv)
     have hS:std.ib .add .i64 c (std.cv .i64 (std.sa b (std.ib .sub .i64 (std.sz b) i)))=c+dig8 (bv a) (i - 1).toNat+dig8 (bv b) (i - 1).toNat:=by
      have e1:=rd_dig0 h1 ga
      rw [s_add,rd_dig hb h1 gb,w64 (by omega) (by omega)]
      omega
     have hset':=hset _ hS
     have hshr':=hshr _ hS
     refine ⟨(i',c',o'),[],hq,hmu,?_⟩
     cbv
     subst hE
     and_intros
     all_goals first
      | rfl
      | exact True.intro
      | exact Sm.of hset'
      | exact vi hshr'
      | exact vi hii
      | (simp; done)
    ·intro gb0
     have gb:¬ i<=b.size:=by subst hE; exact of_decide_eq_false (show decide (i<=(b.size:Int))=false from gb0)
     clear gb0
     cbv
     repeat (refine Need.mk (by subst hE; first | exact hinn | (simp; done)) ?_; cbv)
     have hS:c=c+dig8 (bv a) (i - 1).toNat+dig8 (bv b) (i - 1).toNat:=by
      have e1:=rd_dig0 h1 ga
      have e2:=rd_dig0 h1 gb
      omega
     have hset':=hset _ hS
     have hshr':=hshr _ hS
     refine ⟨(i',c',o'),[],hq,hmu,?_⟩
     cbv
     subst hE
     and_intros
     all_goals first
      | rfl
      | exact True.intro
      | exact Sm.of hset'
      | exact vi hshr'
      | exact vi hii
      | (simp; done)
  ·intro g1
   have hn:n=(N:Int):=hn
   have h1:1<=i:=h1
   have h2:i<=n+1:=h2
   have hge:¬ i<=n:=by subst hE; exact of_decide_eq_false (show decide (i<=n)=false from g1)
   have hj:(i - 1).toNat=N:=by omega
   rw [hj] at h3
   have hl:=hlast c o h3
   cbv
   refine Need.mk (fun y=>⟨y,rfl⟩) ?_
   refine Exists.elim hl ?_
   intro s hs
   have hs1:std.b2s Int (fun x=>[.int .u8 x]) (std.tk Int o n)=s:=hs.1
   have hs2:=hs.2.2
   have ht:=rtrim_con s hs.2.1
   rw [hs2] at ht
   cbv
   refine CallTo.con hP hE ht (by subst hE; exact ⟨congrArg Value.string hs1,trivial⟩) ?_
   cbv
theorem subMag_con (a b:ByteArray) (ha:a.size<=1073741824) (hb:b.size<=1073741824) (hle:bv b<=bv a):Con Tryz.prog 296 [.v (.string a),.v (.string b)] (.v (.string (mg (bv a - bv b)))):=by
 obtain ⟨n,hn⟩:∃ n:Int,n=(a.size:Int):=⟨_,rfl⟩
 obtain ⟨res,hres⟩:∃ r,r=mg (bv a - bv b):=⟨_,rfl⟩
 rw [<-hres]
 obtain ⟨i0,hi0⟩:∃ i:Int,i=1:=⟨_,rfl⟩
 obtain ⟨c0,hc0⟩:∃ i:Int,i=0:=⟨_,rfl⟩
 obtain ⟨o0,ho0⟩:∃ o:List Int,o=List.replicate a.size 0:=⟨_,rfl⟩
 have hz:1<=i0/\i0<=n+1/\RdInv (bv a) (bv b) a.size (i0 - 1).toNat c0 o0:=by
  subst hi0 hc0 ho0
  exact ⟨by omega,by omega,RdInv.zero _ _ _⟩
 have hsz:std.sz a=n:=by rw [s_sz,hn]
 have hmk:std.rng 0 (std.sz a) (std.sz a)/\std.fits (std.sz a) 1:=by rw [hsz,s_rng,s_fits]; omega
 have hrep:std.rep Int n 0=o0:=by rw [s_rep,ho0,hn]; rfl
 have hlast:∀ c o,RdInv (bv a) (bv b) a.size a.size c o->∃ s,std.b2s Int (fun x=>[.int .u8 x]) (std.tk Int o n)=s/\s.size<=1099511627776/\mg (bv s)=res:=by
  intro c o h
  have h6:=h.last (bv_lt a) hle
  obtain ⟨s,e1,e2,e3⟩:=b2s_bval h.ok
  refine ⟨s,?_,by rw [e3,h.len]; omega,?_⟩
  ·rw [s_tk,List.take_of_length_le (by rw [h.len]; omega)]; exact e1
  ·rw [hres]; congr 1; omega
 refine Con.of ttOk mixed Tryz.func296 {} .nil 0 (by kernel_rfl) (fun P' E hP hE=>?_)
 cbv
 refine Need.mk (by subst hE; exact hmk) ?_
 cbv
 refine LoopTo.by (ι:=Int × Int × List Int) (fun x=>[(7,.v (.int .i64 x.1)),(6,.v (.int .i64 x.2.1)),(5,.s 2 n)]) (fun x=>[(2,.row true 5 (cInt .u8) x.2.2)]) (fun x=>1<=x.1/\x.1<=n+1/\RdInv (bv a) (bv b) a.size (x.1 - 1).toNat x.2.1 x.2.2) (fun x=>(n+1 - x.1).toNat) (i0,c0,o0) [] hz ?_ ?_
 ·cbv
  subst hE
  and_intros
  all_goals first
   | rfl
   | exact True.intro
   | exact vj hi0.symm
   | exact vi hi0.symm
   | exact vj hc0.symm
   | exact vi hc0.symm
   | exact congrArg (AV.s 2) hsz
   | exact Sm.of ((congrArg (fun x=>std.rep Int x 0) hsz).trans hrep)
   | (simp; done)
 ·rintro ⟨i,c,o⟩ hi
  have h1:1<=i:=hi.1
  have h2:i<=n+1:=hi.2.1
  have h3:RdInv (bv a) (bv b) a.size (i - 1).toNat c o:=hi.2.2
  clear hi hz hrep ho0
  cbv
  refine fork.mk ?_ ?_
  ·intro g1
   have hn:n=(a.size:Int):=hn
   have h1:1<=i:=h1
   have h2:i<=n+1:=h2
   have hlt:i<=a.size:=by subst hE; exact of_decide_eq_true (show decide (i<=(a.size:Int))=true from g1)
   have hc0:=h3.c0
   have hc1:=h3.c1
   have hd1:=dig8_lt (bv a) (i - 1).toNat
   have hd2:=dig8_lt (bv b) (i - 1).toNat
   have hstep:=fun (d c':Int)=>h3.step (d:=d) (c':=c') (s:=dig8 (bv a) (i - 1).toNat - c - dig8 (bv b) (i - 1).toNat) (by omega) rfl
   have hj:(i - 1).toNat+1=(i+1 - 1).toNat:=by omega
   rw [hj] at hstep
   refine exVar (i+1) ?_
   intro i' hi'
   rw [<-hi'] at hstep
   have hii:std.ib .add .i64 i 1=i':=by rw [s_add,w64 (by omega) (by omega),hi']
   have hsub:std.ib .sub .i64 (std.sz a) i=n - i:=by rw [hsz,s_sub,w64 (by omega) (by omega)]
   have hin0:=rd_in ha h1 hlt
   have hinn:std.inb (std.ib .sub .i64 (std.sz a) i) n:=by rw [hsub,s_inb]; omega
   have hda:=rd_dig ha h1 hlt
   have hset:∀ d,0<=d->d < 256->std.set Int o (std.ib .sub .i64 (std.sz a) i) (std.cv .u8 d)=o.set (a.size - (i' - 1).toNat) d:=by
    intro d hd0 hd1
    rw [hsub,s_set,s_cv,IntKind.wrap_u8,Int.emod_eq_of_lt hd0 hd1]
    congr 1
    omega
   have hmu:(n+1 - i').toNat < (n+1 - i).toNat:=by omega
   have hq1:1<=i'/\i'<=n+1:=⟨by omega,by omega⟩
   clear h3
   cbv
   repeat (refine Need.mk (by subst hE; first | exact hin0 | (simp; done)) ?_; cbv)
   refine fork.mk ?_ ?_
   ·intro gb0
    have gb:i<=b.size:=by subst hE; exact of_decide_eq_true (show decide (i<=(b.size:Int))=true from gb0)
    have hin1:=rd_in hb h1 gb
    clear gb0
    cbv
    repeat (refine Need.mk (by subst hE; first | exact hin1 | (simp; done)) ?_; cbv)
    refine fork.mk ?_ ?_
    ·intro gs0
     have hS:(std.ib .sub .i64 (std.ib .sub .i64 (std.cv .i64 (std.sa a (std.ib .sub .i64 (std.sz a) i))) c) (std.cv .i64 (std.sa b (std.ib .sub .i64 (std.sz b) i))))=dig8 (bv a) (i - 1).toNat - c - dig8 (bv b) (i - 1).toNat:=by
      rw [s_sub,s_sub,hda,rd_dig hb h1 gb,w64 (n:=(dig8 (bv a) (i - 1).toNat:Nat) - c) (by omega) (by omega),w64 (by omega) (by omega)]
     have gs:(dig8 (bv a) (i - 1).toNat:Int) - c - dig8 (bv b) (i - 1).toNat < 0:=by
      rw [<-hS]; subst hE; exact of_decide_eq_true (show decide ((std.ib .sub .i64 (std.ib .sub .i64 (std.cv .i64 (std.sa a (std.ib .sub .i64 (std.sz a) i))) c) (std.cv .i64 (std.sa b (std.ib .sub .i64 (std.sz b) i)))) < 0)=true from gs0)
     clear gs0
     have hq:=hstep (dig8 (bv a) (i - 1).toNat - c - dig8 (bv b) (i - 1).toNat+256) 1 (by rw [if_pos gs]) (by rw [if_pos gs])
     have hD:(std.ib .add .i64 (std.ib .sub .i64 (std.ib .sub .i64 (std.cv .i64 (std.sa a (std.ib .sub .i64 (std.sz a) i))) c) (std.cv .i64 (std.sa b (std.ib .sub .i64 (std.sz b) i)))) 256)=(dig8 (bv a) (i - 1).toNat - c - dig8 (bv b) (i - 1).toNat+256):=by
      rw [hS,s_add,w64 (by omega) (by omega)]
     have hset':=hset (dig8 (bv a) (i - 1).toNat - c - dig8 (bv b) (i - 1).toNat+256) (by omega) (by omega)
     refine exVar (o.set (a.size - (i' - 1).toNat) (dig8 (bv a) (i - 1).toNat - c - dig8 (bv b) (i - 1).toNat+256)) ?_
     intro o' ho'
     rw [<-ho'] at hq hset'
     rw [<-hD] at hset'
     clear ho' hset hstep
     cbv
     repeat (refine Need.mk (by subst hE; first | exact hinn | (simp; done)) ?_; cbv)
     refine ⟨(i',1,o'),[],⟨hq1.1,hq1.2,hq⟩,hmu,?_⟩
     cbv
     subst hE
     and_intros
     all_goals first
      | rfl
      | exact True.intro
      | exact Sm.of hset'
      | exact vi hii
      | (simp; done)
    ·intro gs0
     have hS:(std.ib .sub .i64 (std.ib .sub .i64 (std.cv .i64 (std.sa a (std.ib .sub .i64 (std.sz a) i))) c) (std.cv .i64 (std.sa b (std.ib .sub .i64 (std.sz b) i))))=dig8 (bv a) (i - 1).toNat - c - dig8 (bv b) (i - 1).toNat:=by
      rw [s_sub,s_sub,hda,rd_dig hb h1 gb,w64 (n:=(dig8 (bv a) (i - 1).toNat:Nat) - c) (by omega) (by omega),w64 (by omega) (by omega)]
     have gs:¬ (dig8 (bv a) (i - 1).toNat:Int) - c - dig8 (bv b) (i - 1).toNat < 0:=by
      rw [<-hS]; subst hE; exact of_decide_eq_false (show decide ((std.ib .sub .i64 (std.ib .sub .i64 (std.cv .i64 (std.sa a (std.ib .sub .i64 (std.sz a) i))) c) (std.cv .i64 (std.sa b (std.ib .sub .i64 (std.sz b) i)))) < 0)=false from gs0)
     clear gs0
     have hq:=hstep (dig8 (bv a) (i - 1).toNat - c - dig8 (bv b) (i - 1).toNat) 0 (by rw [if_neg gs]) (by rw [if_neg gs])
     have hD:(std.ib .sub .i64 (std.ib .sub .i64 (std.cv .i64 (std.sa a (std.ib .sub .i64 (std.sz a) i))) c) (std.cv .i64 (std.sa b (std.ib .sub .i64 (std.sz b) i))))=(dig8 (bv a) (i - 1).toNat - c - dig8 (bv b) (i - 1).toNat):=by
      rw [hS]
     have hset':=hset (dig8 (bv a) (i - 1).toNat - c - dig8 (bv b) (i - 1).toNat) (by omega) (by omega)
     refine exVar (o.set (a.size - (i' - 1).toNat) (dig8 (bv a) (i - 1).toNat - c - dig8 (bv b) (i - 1).toNat)) ?_
     intro o' ho'
     rw [<-ho'] at hq hset'
     rw [<-hD] at hset'
     clear ho' hset hstep
     cbv
     repeat (refine Need.mk (by subst hE; first | exact hinn | (simp; done)) ?_; cbv)
     refine ⟨(i',0,o'),[],⟨hq1.1,hq1.2,hq⟩,hmu,?_⟩
     cbv
     subst hE
     and_intros
     all_goals first
      | rfl
      | exact True.intro
      | exact Sm.of hset'
      | exact vi hii
      | (simp; done)
   ·intro gb0
    have gb:¬ i<=b.size:=by subst hE; exact of_decide_eq_false (show decide (i<=(b.size:Int))=false from gb0)
    clear gb0
    cbv
    refine fork.mk ?_ ?_
    ·intro gs0
     have hS:(std.ib .sub .i64 (std.cv .i64 (std.sa a (std.ib .sub .i64 (std.sz a) i))) c)=dig8 (bv a) (i - 1).toNat - c - dig8 (bv b) (i - 1).toNat:=by
      rw [s_sub,hda,w64 (n:=(dig8 (bv a) (i - 1).toNat:Nat) - c) (by omega) (by omega)]
      have e2:=rd_dig0 h1 gb
      omega
     have gs:(dig8 (bv a) (i - 1).toNat:Int) - c - dig8 (bv b) (i - 1).toNat < 0:=by
      rw [<-hS]; subst hE; exact of_decide_eq_true (show decide ((std.ib .sub .i64 (std.cv .i64 (std.sa a (std.ib .sub .i64 (std.sz a) i))) c) < 0)=true from gs0)
     clear gs0
     have hq:=hstep (dig8 (bv a) (i - 1).toNat - c - dig8 (bv b) (i - 1).toNat+256) 1 (by rw [if_pos gs]) (by rw [if_pos gs])
     have hD:(std.ib .add .i64 (std.ib .sub .i64 (std.cv .i64 (std.sa a (std.ib .sub .i64 (std.sz a) i))) c) 256)=(dig8 (bv a) (i - 1).toNat - c - dig8 (bv b) (i - 1).toNat+256):=by
      rw [hS,s_add,w64 (by omega) (by omega)]
     have hset':=hset (dig8 (bv a) (i - 1).toNat - c - dig8 (bv b) (i - 1).toNat+256) (by omega) (by omega)
     refine exVar (o.set (a.size - (i' - 1).toNat) (dig8 (bv a) (i - 1).toNat - c - dig8 (bv b) (i - 1).toNat+256)) ?_
     intro o' ho'
     rw [<-ho'] at hq hset'
     rw [<-hD] at hset'
     clear ho' hset hstep
     cbv
     repeat (refine Need.mk (by subst hE; first | exact hinn | (simp; done)) ?_; cbv)
     refine ⟨(i',1,o'),[],⟨hq1.1,hq1.2,hq⟩,hmu,?_⟩
     cbv
     subst hE
     and_intros
     all_goals first
      | rfl
      | exact True.intro
      | exact Sm.of hset'
      | exact vi hii
      | (simp; done)
    ·intro gs0
     have hS:(std.ib .sub .i64 (std.cv .i64 (std.sa a (std.ib .sub .i64 (std.sz a) i))) c)=dig8 (bv a) (i - 1).toNat - c - dig8 (bv b) (i - 1).toNat:=by
      rw [s_sub,hda,w64 (n:=(dig8 (bv a) (i - 1).toNat:Nat) - c) (by omega) (by omega)]
      have e2:=rd_dig0 h1 gb
      omega
     have gs:¬ (dig8 (bv a) (i - 1).toNat:Int) - c - dig8 (bv b) (i - 1).toNat < 0:=by
      rw [<-hS]; subst hE; exact of_decide_eq_false (show decide ((std.ib .sub .i64 (std.cv .i64 (std.sa a (std.ib .sub .i64 (std.sz a) i))) c) < 0)=false from gs0)
     clear gs0
     have hq:=hstep (dig8 (bv a) (i - 1).toNat - c - dig8 (bv b) (i - 1).toNat) 0 (by rw [if_neg gs]) (by rw [if_neg gs])
     have hD:(std.ib .sub .i64 (std.cv .i64 (std.sa a (std.ib .sub .i64 (std.sz a) i))) c)=(dig8 (bv a) (i - 1).toNat - c - dig8 (bv b) (i - 1).toNat):=by
      rw [hS]
     have hset':=hset (dig8 (bv a) (i - 1).toNat - c - dig8 (bv b) (i - 1).toNat) (by omega) (by omega)
     refine exVar (o.set (a.size - (i' - 1).toNat) (dig8 (bv a) (i - 1).toNat - c - dig8 (bv b) (i - 1).toNat)) ?_
     intro o' ho'
     rw [<-ho'] at hq hset'
     rw [<-hD] at hset'
     clear ho' hset hstep
     cbv
     repeat (refine Need.mk (by subst hE; first | exact hinn | (simp; done)) ?_; cbv)
     refine ⟨(i',0,o'),[],⟨hq1.1,hq1.2,hq⟩,hmu,?_⟩
     cbv
     subst hE
     and_intros
     all_goals first
      | rfl
      | exact True.intro
      | exact Sm.of hset'
      | exact vi hii
      | (simp; done)
  ·intro g1
   have hn:n=(a.size:Int):=hn
   have h1:1<=i:=h1
   have h2:i<=n+1:=h2
   have hge:¬ i<=a.size:=by subst hE; exact of_decide_eq_false (show decide (i<=(a.size:Int))=false from g1)
   have hj:(i - 1).toNat=a.size:=by omega
   rw [hj] at h3
   have hl:=hlast c o h3
   cbv
   refine Need.mk (fun y=>⟨y,rfl⟩) ?_
   refine Exists.elim hl ?_
   intro s hs
   have hs1:std.b2s Int (fun x=>[.int .u8 x]) (std.tk Int o n)=s:=hs.1
   have hs2:=hs.2.2
   have ht:=rtrim_con s hs.2.1
   rw [hs2] at ht
   cbv
   refine CallTo.con hP hE ht (by subst hE; exact ⟨congrArg Value.string hs1,trivial⟩) ?_
   cbv
theorem and255 {s:Int} (h0:0<=s) (h1:s < 65536):std.ib .and .i64 s 255=s % 256:=by
 show IntKind.i64.wrap ((BitVec.ofInt 64 s &&& BitVec.ofInt 64 255).toNat:Int)=s % 256
 have e1:(BitVec.ofInt 64 s).toNat=s.toNat:=by rw [BitVec.toNat_ofInt]; omega
 have e2:(BitVec.ofInt 64 255).toNat=2 ^ 8 - 1:=by rw [BitVec.toNat_ofInt]; decide
 rw [BitVec.toNat_and,e1,e2,Nat.and_two_pow_sub_one_eq_mod,w64 (by omega) (by omega)]
 omega
theorem cv_sa (a:ByteArray) (i:Int):std.cv .i64 (std.sa a i)=(((dg a).getD i.toNat 0).toNat:Int):=by
 have hb:((dg a).getD i.toNat 0).toNat < 256:=UInt8.toNat_lt _
 rw [s_cv,s_sa,dg_get,w64 (by omega) (by omega)]
structure CopyInv (o:List Int) (j:Int) (x:List Int):Prop where
 j0:0<=j
 j1:j<=o.length
 v:x=o.take j.toNat++List.replicate (o.length - j.toNat) 0
theorem CopyInv.step {o x:List Int} {j:Int} (h:CopyInv o j x) (hj:j < o.length):CopyInv o (j+1) (x.set j.toNat (o.getD j.toNat 0)):=by
 have h0:=h.j0
 refine ⟨by omega,by omega,?_⟩
 have e:(j+1).toNat=j.toNat+1:=by omega
 have hlt:j.toNat < o.length:=by omega
 rw [h.v,e,List.set_append_right _ _ (by rw [List.length_take]; omega),List.length_take,Nat.min_eq_left (by omega),Nat.sub_self]
 have e2:o.length - j.toNat=(o.length - (j.toNat+1))+1:=by omega
 rw [e2,List.replicate_succ,List.set_cons_zero,List.take_succ_eq_append_getElem hlt,List.append_assoc,List.getD_eq_getElem?_getD,List.getElem?_eq_getElem hlt]
 rfl
theorem mulMag_con (a b:ByteArray) (ha:a.size<=1073741824) (hb:b.size<=1073741824):Con Tryz.prog 247 [.v (.string a),.v (.string b)] (.v (.string (mg (bv a*bv b)))):=by
 obtain ⟨n,hn⟩:∃ n:Int,n=(a.size:Int)+b.size:=⟨_,rfl⟩
 obtain ⟨res,hres⟩:∃ r,r=mg (bv a*bv b):=⟨_,rfl⟩
 rw [<-hres]
 have la:(dg a).length=a.size:=(dg_size a).symm
 have lb:(dg b).length=b.size:=(dg_size b).symm
 obtain ⟨i0,hi0⟩:∃ i:Int,i=(a.size:Int) - 1:=⟨_,rfl⟩
 obtain ⟨k0,hk0⟩:∃ i:Int,i=(b.size:Int) - 1:=⟨_,rfl⟩
 obtain ⟨c0,hc0⟩:∃ i:Int,i=0:=⟨_,rfl⟩
 obtain ⟨o0,ho0⟩:∃ o:List Int,o=List.replicate (a.size+b.size) 0:=⟨_,rfl⟩
 have hz:RoInv (dg a) (dg b) i0 o0:=by
  have:=RoInv.zero (dg a) (dg b)
  rw [la,lb,<-hi0,<-ho0] at this
  exact this
 have hsum:std.ib .add .i64 (std.sz a) (std.sz b)=n:=by rw [s_add,s_sz,s_sz,w64 (by omega) (by omega),hn]
 have hmk:std.rng 0 (std.ib .add .i64 (std.sz a) (std.sz b)) (std.ib .add .i64 (std.sz a) (std.sz b))/\std.fits (std.ib .add .i64 (std.sz a) (std.sz b)) 8:=by rw [hsum,s_rng,s_fits]; omega
 have hmk1:std.rng 0 n n/\std.fits n 1:=by rw [s_rng,s_fits]; omega
 have hrep:std.rep Int n 0=o0:=by rw [s_rep,ho0,hn]; congr 1
 have hi0w:std.ib .sub .i64 (std.sz a) 1=i0:=by rw [s_sub,s_sz,w64 (by omega) (by omega),hi0]
 have hk0w:std.ib .sub .i64 (std.sz b) 1=k0:=by rw [s_sub,s_sz,w64 (by omega) (by omega),hk0]
 have hlast:∀ o x,RoInv (dg a) (dg b) (-1) o->CopyInv o n x->∃ s,std.b2s Int (fun x=>[.int .u8 x]) (std.tk Int x n)=s/\s.size<=1099511627776/\mg (bv s)=res:=by
  intro o x h hc
  have h6:=h.last
  obtain ⟨s,e1,e2,e3⟩:=b2s_bval h.ok
  have hl:=h.len
  refine ⟨s,?_,by omega,?_⟩
  ·rw [s_tk,hc.v,List.take_of_length_le (l:=o) (by omega),show o.length - n.toNat=0 by omega,List.replicate_zero,List.append_nil,List.take_of_length_le (by omega)]; exact e1
  ·rw [hres]; congr 1
   rw [h6] at e2
   exact Int.ofNat.inj e2
 refine Con.of ttOk mixed Tryz.func247 { ord:=[(9,[0,1,2,3,4,5,6,7,8,9,10,11,12,13,14,15,16,17,18,19])] } .nil 0 (by kernel_rfl) (fun P' E hP hE=>?_)
 cbv
 refine Need.mk (by subst hE; exact hmk) ?_
 cbv
 refine LoopTo.by (ι:=Int × List Int) (fun x=>[(6,.v (.int .i64 x.1)),(5,.s 2 n)]) (fun x=>[(2,.row true 3 (cInt .i64) x.2)]) (fun x=>RoInv (dg a) (dg b) x.1 x.2) (fun x=>(x.1+1).toNat) (i0,o0) [] hz ?_ ?_
 ·cbv
  subst hE
  and_intros
  all_goals first
   | rfl
   | exact True.intro
   | exact vi hi0w
   | exact congrArg (AV.s 2) hsum
   | exact Sm.of ((congrArg (fun x=>std.rep Int x 0) hsum).trans hrep)
   | (simp; done)
 ·rintro ⟨i,o⟩ hi
  have hi:RoInv (dg a) (dg b) i o:=hi
  have q1:=hi.i0
  have q2:=hi.i1
  clear hz hrep ho0
  cbv
  refine fork.mk ?_ ?_
  ·intro g1
   have la:(dg a).length=a.size:=la
   have lb:(dg b).length=b.size:=lb
   have hn:n=(a.size:Int)+b.size:=hn
   have ha:a.size<=1073741824:=ha
   have hb:b.size<=1073741824:=hb
   have q1 : -1<=i:=q1
   have q2:i < ((dg a).length:Int):=q2
   have h0:0<=i:=by subst hE; exact of_decide_eq_true (show decide (i>=0)=true from g1)
   have hu:RqInv (dg a) (dg b) i k0 c0 o:=by
    have:=RqInv.zero hi h0
    rw [lb,<-hk0] at this
    rw [hc0]; exact this
   clear hi
   cbv
   refine LoopTo.by (ι:=Int × Int × List Int) (fun x=>[(8,.v (.int .i64 x.1)),(7,.v (.int .i64 x.2.1))]) (fun x=>[(2,.row true 3 (cInt .i64) x.2.2)]) (fun x=>RqInv (dg a) (dg b) i x.1 x.2.1 x.2.2) (fun x=>(x.1+1).toNat) (k0,c0,o) [] hu ?_ ?_
   ·cbv
    subst hE
    and_intros
    all_goals first
     | rfl
     | exact True.intro
     | exact vi hk0w
     | exact vj hc0.symm
     | exact vi hc0.symm
     | (simp; done)
   ·rintro ⟨k,c,u⟩ hk
    have hk:RqInv (dg a) (dg b) i k c u:=hk
    have k0':=hk.k0
    have k1':=hk.k1
    have hl:=hk.len
    clear hu
    cbv
    refine fork.mk ?_ ?_
    ·intro g2
     have la:(dg a).length=a.size:=la
     have lb:(dg b).length=b.size:=lb
     have hn:n=(a.size:Int)+b.size:=hn
     have ha:a.size<=1073741824:=ha
     have hb:b.size<=1073741824:=hb
     have q1 : -1<=i:=q1
     have q2:i < ((dg a).length:Int):=q2
     have k0' : -1<=k:=k0'
     have k1':k < ((dg b).length:Int):=k1'
     have hl:u.length=(dg a).length+(dg b).length:=hl
     have hk00:0<=k:=by subst hE; exact of_decide_eq_true (show decide (k>=0)=true from g2)
     obtain ⟨s0,s1,hst⟩:=hk.step hk00 rfl
     have hik:std.ib .add .i64 (std.ib .add .i64 i k) 1=i+k+1:=by
      rw [s_add,s_add,w64 (n:=i+k) (by omega) (by omega),w64 (by omega) (by omega)]
     have hin1:std.inb (std.ib .add .i64 (std.ib .add .i64 i k) 1) n:=by rw [hik,s_inb]; omega
     have hin2:std.inb i (std.sz a):=by rw [s_inb,s_sz]; omega
     have hin3:std.inb k (std.sz b):=by rw [s_inb,s_sz]; omega
     have e1:std.ib .add .i64 c (std.ib .add .i64 (std.get Int u (std.ib .add .i64 (std.ib .add .i64 i k) 1) 0) (std.ib .mul .i64 (std.cv .i64 (std.sa a i)) (std.cv .i64 (std.sa b k))))=c+(u.getD (i+k+1).toNat 0+((dg a).getD i.toNat 0).toNat*((dg b).getD k.toNat 0).toNat):=by
      have g1:=hk.c0
      have g2:=hk.c1
      have g3:=hk.ok.get (i+k+1).toNat
      have g4:(0:Int)<=(((dg a).getD i.toNat 0).toNat:Int)*(((dg b).getD k.toNat 0).toNat:Int):=Int.mul_nonneg (Int.natCast_nonneg _) (Int.natCast_nonneg _)
      rw [hik,cv_sa,cv_sa,s_get,s_mul,w64 (n:=(((dg a).getD i.toNat 0).toNat:Int)*(((dg b).getD k.toNat 0).toNat:Int)) (by omega) (by omega),s_add,s_add,w64 (n:=u.getD (i+k+1).toNat 0+(((dg a).getD i.toNat 0).toNat:Int)*(((dg b).getD k.toNat 0).toNat:Int)) (by omega) (by omega),w64 (by omega) (by omega)]
     generalize c+(u.getD (i+k+1).toNat 0+((dg a).getD i.toNat 0).toNat*((dg b).getD k.toNat 0).toNat)=s at s0 s1 hst e1
     refine exVar (k - 1) ?_; intro k' hk'
     refine exVar (s / 256) ?_; intro c' hc'
     refine exVar (u.set (i+k+1).toNat (s % 256)) ?_; intro u' hu'
     rw [<-hk',<-hc',<-hu'] at hst
     have hkw:std.ib .sub .i64 k 1=k':=by rw [s_sub,w64 (by omega) (by omega),hk']
     have hcc:∀ S,S=s->std.ib .shr .i64 S 8=c':=by
      intro S hS; rw [hS,hc']; exact Int.fdiv_eq_ediv_of_nonneg _ (by decide)
     have hset:∀ S,S=s->std.set Int u (std.ib .add .i64 (std.ib .add .i64 i k) 1) (std.ib .and .i64 S 255)=u':=by
      intro S hS; rw [hS,hik,s_set,and255 s0 s1,hu']
     have hcc:=hcc _ e1
     have hset:=hset _ e1
     have hmu:(k'+1).toNat < (k+1).toNat:=by omega
     clear e1 hu' hc' hk
     cbv
     repeat (refine Need.mk (by subst hE; first | exact hin1 | exact hin2 | exact hin3 | (simp; done)) ?_; cbv)
     refine ⟨(k',c',u'),[],hst,hmu,?_⟩
     cbv
     subst hE
     and_intros
     all_goals first
      | rfl
      | exact True.intro
      | exact Sm.of hset
      | exact vi hcc
      | exact vi hkw
      | (simp; done)
    ·intro g2
     have la:(dg a).length=a.size:=la
     have lb:(dg b).length=b.size:=lb
     have hn:n=(a.size:Int)+b.size:=hn
     have ha:a.size<=1073741824:=ha
     have hb:b.size<=1073741824:=hb
     have q1 : -1<=i:=q1
     have q2:i < ((dg a).length:Int):=q2
     have k0' : -1<=k:=k0'
     have k1':k < ((dg b).length:Int):=k1'
     have hl:u.length=(dg a).length+(dg b).length:=hl
     have hk00:¬ 0<=k:=by subst hE; exact of_decide_eq_false (show decide (k>=0)=false from g2)
     have hkm:k = -1:=by omega
     subst hkm
     have hq:=hk.last
     have hin2:std.inb i n:=by rw [s_inb]; omega
     have g3:=hk.ok.get i.toNat
     have g4:=hk.c0
     have g5:=hk.c1
     refine exVar (i - 1) ?_; intro i' hi'
     refine exVar (u.set i.toNat (u.getD i.toNat 0+c)) ?_; intro u' hu'
     rw [<-hi',<-hu'] at hq
     have hiw:std.ib .sub .i64 i 1=i':=by rw [s_sub,w64 (by omega) (by omega),hi']
     have hset:std.set Int u i (std.ib .add .i64 (std.get Int u i 0) c)=u':=by
      rw [s_get,s_add,w64 (by omega) (by omega),s_set,hu']
     have hmu:(i'+1).toNat < (i+1).toNat:=by omega
     clear hu' hk g3
     cbv
     repeat (refine Need.mk (by subst hE; first | exact hin2 | (simp; done)) ?_; cbv)
     refine ⟨(i',u'),[],hq,hmu,?_⟩
     cbv
     subst hE
     and_intros
     all_goals first
      | rfl
      | exact True.intro
      | exact Sm.of hset
      | exact vi hiw
      | (simp; done)
  ·intro g1
   have la:(dg a).length=a.size:=la
   have lb:(dg b).length=b.size:=lb
   have hn:n=(a.size:Int)+b.size:=hn
   have ha:a.size<=1073741824:=ha
   have hb:b.size<=1073741824:=hb
   have q1 : -1<=i:=q1
   have q2:i < ((dg a).length:Int):=q2
   have h0:¬ 0<=i:=by subst hE; exact of_decide_eq_false (show decide (i>=0)=false from g1)
   have him:i = -1:=by omega
   subst him
   have hl:=hi.len
   have hol:(o.length:Int)=n:=by omega
   refine exVar (List.replicate o.length (0:Int)) ?_; intro x0 hx0
   have hx:CopyInv o c0 x0:=by
    rw [hc0,hx0]
    exact ⟨by omega,by omega,by simp⟩
   have hrep:std.rep Int n 0=x0:=by rw [s_rep,hx0]; congr 1; omega
   clear hx0
   cbv
   refine Need.mk (by subst hE; exact hmk1) ?_
   cbv
   refine LoopTo.by (ι:=Int × List Int) (fun x=>[(10,.v (.int .i64 x.1))]) (fun x=>[(3,.row true 5 (cInt .u8) x.2)]) (fun x=>CopyInv o x.1 x.2) (fun x=>(n - x.1).toNat) (c0,x0) [] hx ?_ ?_
   ·cbv
    subst hE
    and_intros
    all_goals first
     | rfl
     | exact True.intro
     | exact Sm.of hrep
     | exact vj hc0.symm
     | exact vi hc0.symm
     | (simp; done)
   ·rintro ⟨j,x⟩ hj
    have hj:CopyInv o j x:=hj
    have j0:=hj.j0
    have j1:=hj.j1
    clear hx
    cbv
    refine fork.mk ?_ ?_
    ·intro g2
     have la:(dg a).length=a.size:=la
     have lb:(dg b).length=b.size:=lb
     have hn:n=(a.size:Int)+b.size:=hn
     have ha:a.size<=1073741824:=ha
     have hb:b.size<=1073741824:=hb
     have j0:0<=j:=j0
     have j1:j<=(o.length:Int):=j1
     have hol:(o.length:Int)=n:=hol
     have hlt:j < n:=by subst hE; exact of_decide_eq_true (show decide (j < n)=true from g2)
     have hst:=hj.step (by omega)
     have g3:=hi.ok.get j.toNat
     have hin:std.inb j n:=by rw [s_inb]; omega
     refine exVar (j+1) ?_; intro j' hj'
     refine exVar (x.set j.toNat (o.getD j.toNat 0)) ?_; intro x' hx'
     rw [<-hj',<-hx'] at hst
     have hjw:std.ib .add .i64 j 1=j':=by rw [s_add,w64 (by omega) (by omega),hj']
     have hset:std.set Int x j (std.cv .u8 (std.get Int o j 0))=x':=by
      rw [s_get,s_cv,IntKind.wrap_u8,s_set,hx',Int.emod_eq_of_lt g3.1 g3.2]
     have hmu:(n - j').toNat < (n - j).toNat:=by omega
     clear hx' g3
     cbv
     repeat (refine Need.mk (by subst hE; first | exact hin | (simp; done)) ?_; cbv)
     refine ⟨(j',x'),[],hst,hmu,?_⟩
     cbv
     subst hE
     and_intros
     all_goals first
      | rfl
      | exact True.intro
      | exact Sm.of hset
      | exact vi hjw
      | (simp; done)
    ·intro g2
     have la:(dg a).length=a.size:=la
     have lb:(dg b).length=b.size:=lb
     have hn:n=(a.size:Int)+b.size:=hn
     have ha:a.size<=1073741824:=ha
     have hb:b.size<=1073741824:=hb
     have j0:0<=j:=j0
     have j1:j<=(o.length:Int):=j1
     have hol:(o.length:Int)=n:=hol
     have hge:¬ j < n:=by subst hE; exact of_decide_eq_false (show decide (j < n)=false from g2)
     have hjn:j=n:=by omega
     subst hjn
     have hl:=hlast o x hi hj
     cbv
     refine Need.mk (fun y=>⟨y,rfl⟩) ?_
     refine Exists.elim hl ?_
     intro s hs
     have hs1:std.b2s Int (fun x=>[.int .u8 x]) (std.tk Int x j)=s:=hs.1
     have hs2:=hs.2.2
     have ht:=rtrim_con s hs.2.1
     rw [hs2] at ht
     cbv
     refine CallTo.con hP hE ht (by subst hE; exact ⟨congrArg Value.string hs1,trivial⟩) ?_
     cbv
/-- The bits of a digit of the quotient, from 7 down to k + 1, are found. -/
structure ReInv (B R0:Nat) (k:Int) (R:Nat) (d:Int):Prop where
 k0 : -1<=k
 k1:k<=7
 d0:0<=d
 d1:d+((2 ^ (k+1).toNat:Nat):Int)<=256
 r:R < B*2 ^ (k+1).toNat
 v:(R0:Int)=d*B+R
theorem ReInv.zero {B R0:Nat} (h:R0 < B*256):ReInv B R0 7 R0 0:=by
 refine ⟨by decide,by decide,by decide,by decide,?_,by simp⟩
 have:(2:Nat) ^ ((7:Int)+1).toNat=256:=by decide
 rw [this]; exact h
theorem ReInv.step {B R0 R:Nat} {k d:Int} (h:ReInv B R0 k R d) (hk:0<=k) :
  (B*2 ^ k.toNat<=R->ReInv B R0 (k - 1) (R - B*2 ^ k.toNat) (d+((2 ^ k.toNat:Nat):Int)))/\(R < B*2 ^ k.toNat->ReInv B R0 (k - 1) R d):=by
 have e1:(k+1).toNat=k.toNat+1:=by omega
 have e2:(k - 1+1).toNat=k.toNat:=by congr 1; omega
 have h1:=h.r
 have h2:=h.d1
 have h3:=h.d0
 have h4:=h.k1
 have h5:=h.v
 rw [e1,Nat.pow_succ] at h1 h2
 rw [<-Nat.mul_assoc] at h1
 constructor
 ·intro hle
  refine ⟨by omega,by omega,by omega,?_,?_,?_⟩
  ·rw [e2]; omega
  ·rw [e2]; omega
  ·rw [Int.ofNat_sub hle,h5,Int.natCast_mul]
   generalize ((2 ^ k.toNat:Nat):Int)=p
   grind
 ·intro hlt
  refine ⟨by omega,by omega,by omega,?_,?_,h5⟩
  ·rw [e2]; omega
  ·rw [e2]; exact hlt
theorem ReInv.last {B R0 R:Nat} {d:Int} (h:ReInv B R0 (-1) R d):R < B/\d=((R0 / B:Nat):Int)/\R=R0 % B:=by
 have h1:=h.r
 have e:((-1:Int)+1).toNat=0:=rfl
 rw [e,Nat.pow_zero,Nat.mul_one] at h1
 have h5:=h.v
 have h3:=h.d0
 obtain ⟨m,hm⟩:∃ m:Nat,d=m:=⟨d.toNat,by omega⟩
 have h6:R0=m*B+R:=by
  rw [hm] at h5
  have:((m*B+R:Nat):Int)=(m:Int)*B+R:=by rw [Int.natCast_add,Int.natCast_mul]
  omega
 refine ⟨h1,?_,?_⟩
 ·rw [hm,h6,Nat.mul_comm m B,Nat.mul_add_div (by omega),Nat.div_eq_of_lt h1]; rfl
 ·rw [h6,Nat.mul_comm m B,Nat.mul_add_mod,Nat.mod_eq_of_lt h1]
/-- The first i digits are divided. -/
structure RfInv (A:List UInt8) (B:Nat) (i:Int) (R:Nat) (o:List Int):Prop where
 i0:0<=i
 i1:i<=A.length
 len:o.length=A.length
 ok:Ok8 o
 v:bval (o.take i.toNat)=((dv (A.take i.toNat) / B:Nat):Int)
 r:R=dv (A.take i.toNat) % B
theorem RfInv.zero (A:List UInt8) (B:Nat):RfInv A B 0 0 (List.replicate A.length 0):=by
 refine ⟨by decide,by omega,by simp,Ok8.rep _,?_,?_⟩<;>simp [bval,dv]
theorem RfInv.step {A:List UInt8} {B R:Nat} {i:Int} {o:List Int} (h:RfInv A B i R o) (hB:0 < B) (hi:i < A.length) :
  R*256+(A.getD i.toNat 0).toNat < B*256/\RfInv A B (i+1) ((R*256+(A.getD i.toNat 0).toNat) % B) (o.set i.toNat (((R*256+(A.getD i.toNat 0).toNat) / B:Nat):Int)):=by
 have h0:=h.i0
 have hl:=h.len
 have hr:R < B:=by rw [h.r]; exact Nat.mod_lt _ hB
 have ha:(A.getD i.toNat 0).toNat < 256:=UInt8.toNat_lt _
 have e:(i+1).toNat=i.toNat+1:=by omega
 have hlt:i.toNat < A.length:=by omega
 have h1:R*256+(A.getD i.toNat 0).toNat < B*256:=by omega
 have h2:(R*256+(A.getD i.toNat 0).toNat) / B < 256:=Nat.div_lt_of_lt_mul h1
 have hlt2:(R*256+(A.getD i.toNat 0).toNat) / B<=255:=by omega
 have h3:dv (A.take (i.toNat+1))=(dv (A.take i.toNat) / B*256)*B+(R*256+(A.getD i.toNat 0).toNat):=by
  rw [dv_take_succ hlt,h.r]
  have:=Nat.div_add_mod (dv (A.take i.toNat)) B
  generalize dv (A.take i.toNat) / B=q at *
  generalize dv (A.take i.toNat) % B=r at *
  rw [<-this]; grind
 refine ⟨h1,by omega,by omega,by rw [List.length_set]; exact hl,h.ok.set (Int.natCast_nonneg _) (by omega) _,?_,?_⟩
 ·rw [e,h3,List.take_succ_eq_append_getElem (by rw [List.length_set]; omega),List.getElem_set_self,List.take_set_of_le (Nat.le_refl _),bval_append,h.v]
  rw [Nat.mul_comm _ B,Nat.mul_add_div hB]
  simp [bval]
 ·rw [e,h3,Nat.mul_comm _ B,Nat.mul_add_mod]
/-- The doubles of the divisor. -/
structure RtInv (B:Nat) (i:Int) (ts:List ByteArray):Prop where
 i0:1<=i
 i1:i<=8
 len:ts.length=8
 v:∀ j:Nat,(j:Int) < i->ts.getD j ⟨⟨[]⟩⟩=mg (B*2 ^ j)
theorem getD_setB {xs:List ByteArray} {i j:Nat} {v z:ByteArray} (h:i < xs.length):(xs.set i v).getD j z=if i=j then v else xs.getD j z:=by
 rw [List.getD_eq_getElem?_getD,List.getD_eq_getElem?_getD,List.getElem?_set]
 split
 ·rename_i e; subst e; simp [h]
 ·rfl
theorem RtInv.step {B:Nat} {i:Int} {ts:List ByteArray} (h:RtInv B i ts) (hi:i < 8):ts.getD (i - 1).toNat ⟨⟨[]⟩⟩=mg (B*2 ^ (i - 1).toNat)/\RtInv B (i+1) (ts.set i.toNat (mg (B*2 ^ (i - 1).toNat+B*2 ^ (i - 1).toNat))):=by
 have h0:=h.i0
 have hl:=h.len
 refine ⟨h.v _ (by omega),by omega,by omega,by rw [List.length_set]; exact hl,fun j hj=>?_⟩
 rw [getD_setB (by omega)]
 split
 ·rename_i e
  have:j=(i - 1).toNat+1:=by omega
  rw [this,Nat.pow_succ]
  congr 1; grind
 ·exact h.v j (by omega)
theorem bv_lt_pow {B k:Nat} (h:(mg B).size<=k):B < 256 ^ k:=by
 have h1:=bv_lt (mg B)
 rw [bv_mg] at h1
 exact Nat.lt_of_lt_of_le h1 (pow256_mono h)
theorem mg_size_mul {B j k:Nat} (h:(mg B).size<=k) (hj:j<=7):(mg (B*2 ^ j)).size<=k+1:=by
 refine mg_size_le ?_
 have h1:=bv_lt_pow h
 have h2:(2:Nat) ^ j<=2 ^ 7:=Nat.pow_le_pow_right (by decide) hj
 have h3:B*2 ^ j < 256 ^ k*256:=by
  refine Nat.lt_of_le_of_lt (Nat.mul_le_mul_left B h2) ?_
  have:(2:Nat) ^ 7=128:=by decide
  rw [this]
  have hp:0 < 256 ^ k:=Nat.pow_pos (by decide)
  generalize 256 ^ k=p at *
  omega
 rw [Nat.pow_succ]
 exact h3
theorem shl1 {k:Int} (h0:0<=k) (h1:k<=7):std.ib .shl .i64 1 (std.cv .u64 k)=((2 ^ k.toNat:Nat):Int):=by
 have:k=0\/k=1\/k=2\/k=3\/k=4\/k=5\/k=6\/k=7:=by omega
 rcases this with rfl | rfl | rfl | rfl | rfl | rfl | rfl | rfl<;>rfl
theorem bv_snoc (r a:ByteArray) {i:Int} (h0:0<=i) (h1:i < a.size):bv (r++a.extract i.toNat (i+1).toNat)=bv r*256+((dg a).getD i.toNat 0).toNat:=by
 show dv (dg (r++a.extract i.toNat (i+1).toNat))=_
 have e:dg (r++a.extract i.toNat (i+1).toNat)=dg r++[(dg a).getD i.toNat 0]:=by
  have:dg (r++a.extract i.toNat (i+1).toNat)=dg r++dg (a.extract i.toNat (i+1).toNat):=by
   simp [dg,ByteArray.data_append]
  rw [this,dg_extract]
  congr 1
  have hlt:i.toNat < (dg a).length:=by rw [<-dg_size]; omega
  have e1:(i+1).toNat=i.toNat+1:=by omega
  rw [e1,List.take_succ_eq_append_getElem hlt,List.drop_append_of_le_length (by rw [List.length_take]; omega),List.drop_eq_nil_of_le (by rw [List.length_take]; omega),List.nil_append,List.getD_eq_getElem?_getD,List.getElem?_eq_getElem hlt]
  rfl
 rw [e,dv_snoc]; rfl
end Go.Proofs.YtkipmmiiackdaaaGreat.Sx
