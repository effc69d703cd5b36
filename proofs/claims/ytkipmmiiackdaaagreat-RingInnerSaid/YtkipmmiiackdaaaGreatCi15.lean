/- Part 15 of what the statement needs: an executor of Go texts, arithmetic, and contracts of the functions that are called. -/
import Derived.Test.YtkipmmiiackdaaaGreatCi14
set_option linter.unusedSimpArgs false
set_option linter.unusedVariables false
set_option maxHeartbeats 4000000
set_option maxRecDepth 100000
namespace Go.Proofs.YtkipmmiiackdaaaGreat.Sx
open Env (std)
theorem ok_ext:∀ {xs ys:List Int},Ok32 xs->Ok32 ys->xs.length=ys.length->val xs=val ys->xs=ys
 | [],[],_,_,_,_=>rfl
 | [],_::_,_,_,h,_=>by cases h
 | _::_,[],_,_,h,_=>by cases h
 | x::xs,y::ys,hx,hy,hl,hv=>by
  simp only [val] at hv
  have h1:=hx.head
  have h2:=hy.head
  have h3:x=y:=by omega
  have h4:val xs=val ys:=by omega
  rw [h3,ok_ext hx.tail hy.tail (by simpa using hl) h4]
structure HInv (X:List Int) (n:Nat) (i:Int) (o:List Int):Prop where
 i0:0<=i
 i1:i<=X.length
 len:o.length=X.length+1
 ok:Ok32 o
 z:∀ j:Nat,i.toNat < j->o.getD j 0=0
 c:o.getD i.toNat 0 < ((2 ^ n:Nat):Int)
 v:val o=val (X.take i.toNat)*((2 ^ n:Nat):Int)
theorem HInv.zero {X:List Int} {n:Nat} {i:Int} {o:List Int} (hi:i=0) (ho:o=List.replicate (X.length+1) 0):HInv X n i o:=by
 subst hi; subst ho
 have:0 < 2 ^ n:=Nat.pow_pos (by decide)
 exact ⟨by omega,by omega,by simp,.rep _,fun j _=>rep_getD _ _,by rw [rep_getD]; omega,by rw [val_rep]; simp [val]⟩
/-- What a limb that is shifted falls into. -/
theorem shl_parts {x:Int} {n:Nat} (x0:0<=x) (x1:x < 4294967296) (hn:n<=32):∃ c:Nat,x*((2 ^ n:Nat):Int) % 4294967296=((2 ^ n*c:Nat):Int)/\2 ^ n*c+2 ^ n<=4294967296/\0<=x*((2 ^ n:Nat):Int) / 4294967296/\x*((2 ^ n:Nat):Int) / 4294967296 < ((2 ^ n:Nat):Int):=by
 have hp:0 < 2 ^ n:=Nat.pow_pos (by decide)
 have hq:0 < 2 ^ (32 - n):=Nat.pow_pos (by decide)
 have hpq:2 ^ n*2 ^ (32 - n)=4294967296:=by
  rw [<-Nat.pow_add]
  have:n+(32 - n)=32:=by omega
  rw [this]
 obtain ⟨y,rfl⟩:∃ y:Nat,x=y:=⟨x.toNat,by omega⟩
 refine ⟨y % 2 ^ (32 - n),?_,?_,?_,?_⟩
 ·rw [<-Nat.mul_mod_mul_left,hpq,Nat.mul_comm (2 ^ n)]; rfl
 ·have h:y % 2 ^ (32 - n)+1<=2 ^ (32 - n):=Nat.mod_lt _ hq
  calc 2 ^ n*(y % 2 ^ (32 - n))+2 ^ n=2 ^ n*(y % 2 ^ (32 - n)+1):=by rw [Nat.mul_add,Nat.mul_one]
   _<=2 ^ n*2 ^ (32 - n):=Nat.mul_le_mul_left _ h
   _=4294967296:=hpq
 ·exact Int.ediv_nonneg (Int.mul_nonneg x0 (by omega)) (by decide)
 ·refine Int.ediv_lt_of_lt_mul (by decide) ?_
  rw [Int.mul_comm]
  exact Int.mul_lt_mul_of_pos_left x1 (by omega)
theorem HInv.step {X:List Int} (hX:Ok32 X) {n:Nat} (hn:n<=32) {i y:Int} {o:List Int} (h:HInv X n i o) (hi:i < X.length) (hy:y=X.getD i.toNat 0*((2 ^ n:Nat):Int)) :
  HInv X n (i+1) ((o.set i.toNat (o.getD i.toNat 0+y % 4294967296)).set (i+1).toNat (y / 4294967296)):=by
 have hx:=hX.get i.toNat
 have ho:=h.ok.get i.toNat
 have hi0:=h.i0
 have hc:=h.c
 obtain ⟨c,h1,h2,h3,h4⟩:=shl_parts hx.1 hx.2 hn
 rw [<-hy] at h1 h3 h4
 have e:(i+1).toNat=i.toNat+1:=by omega
 have hlt:i.toNat < o.length:=by rw [h.len]; omega
 have hlt2:i.toNat+1 < (o.set i.toNat (o.getD i.toNat 0+y % 4294967296)).length:=by rw [List.length_set,h.len]; omega
 have hpn:2 ^ n<=2 ^ 32:=Nat.pow_le_pow_right (by decide) hn
 have h32:2 ^ 32=4294967296:=by decide
 have hlow:o.getD i.toNat 0+y % 4294967296 < 4294967296:=by omega
 rw [e]
 refine ⟨by omega,by omega,by rw [List.length_set,List.length_set,h.len],(h.ok.set (by omega) hlow _).set h3 (by omega) _,fun j hj=>?_,?_,?_⟩
 ·rw [getD_set hlt2,if_neg (by omega),getD_set hlt,if_neg (by omega)]
  exact h.z j (by omega)
 ·rw [e,getD_set hlt2,if_pos rfl]
  exact h4
 ·have hv:=h.v
  rw [val_set _ _ _ hlt2,val_set _ _ _ hlt,getD_set hlt,if_neg (by omega),h.z _ (Nat.lt_succ_self _),e,val_take_succ,Int.pow_succ]
  have hs:y=4294967296*(y / 4294967296)+y % 4294967296:=by omega
  generalize y / 4294967296=q at *
  generalize y % 4294967296=m at *
  generalize X.getD i.toNat 0=x at *
  generalize (4294967296:Int) ^ i.toNat=p at *
  grind
theorem HInv.last {X r:List Int} {n:Nat} {i:Int} {o:List Int} (h:HInv X n i o) (hi:i=X.length) (r1:Ok32 r) (r2:r.length=X.length+1) (r3:val r=val X*((2 ^ n:Nat):Int)):o=r:=by
 have hv:=h.v
 rw [List.take_of_length_le (by omega)] at hv
 exact ok_ext h.ok r1 (by rw [h.len,r2]) (by rw [hv,r3])
structure NInv (X:List Int) (n:Nat) (i:Int) (o:List Int):Prop where
 i0:0<=i
 i1:i<=X.length
 len:o.length=X.length
 ok:Ok32 o
 z:∀ j:Nat,i.toNat<=j->o.getD j 0=0
 v:val o=((val X).toNat / 2 ^ n % 4294967296 ^ i.toNat:Nat)
theorem NInv.zero {X:List Int} {n:Nat} {i:Int} {o:List Int} (hi:i=0) (ho:o=List.replicate X.length 0):NInv X n i o:=by
 subst hi; subst ho
 exact ⟨by omega,by omega,by simp,.rep _,fun j _=>rep_getD _ _,by rw [val_rep]; simp [Nat.mod_one]⟩
/-- A limb of a number that was shifted. -/
theorem shr_limb {X:List Int} (hX:Ok32 X) {n i:Nat} (hn:n<=32):(val X).toNat / 2 ^ n / 4294967296 ^ i % 4294967296=(X.getD i 0+X.getD (i+1) 0*4294967296).toNat / 2 ^ n % 4294967296:=by
 have hp:0 < 2 ^ n:=Nat.pow_pos (by decide)
 have h1:val X=val (X.take i)+4294967296 ^ i*(X.getD i 0+4294967296*X.getD (i+1) 0)+4294967296 ^ i*(4294967296*4294967296)*val (X.drop (i+2)):=by
  by_cases c:i+2<=X.length
  ·have a:=val_split c
   have b:val (X.take (i+2))=val (X.take i)+4294967296 ^ i*X.getD i 0+4294967296 ^ (i+1)*X.getD (i+1) 0:=by
    rw [val_take_succ (i:=i+1),val_take_succ]
   rw [a,b,Int.pow_succ,Int.pow_succ]
   grind
  ·have b:val (X.take (i+2))=val (X.take i)+4294967296 ^ i*X.getD i 0+4294967296 ^ (i+1)*X.getD (i+1) 0:=by
    rw [val_take_succ (i:=i+1),val_take_succ]
   rw [List.take_of_length_le (by omega)] at b
   have d:X.drop (i+2)=[]:=List.drop_eq_nil_of_le (by omega)
   rw [b,d,Int.pow_succ]
   simp only [val]
   grind
 have g0:=hX.get i
 have g1:=hX.get (i+1)
 have t0:=val_nonneg (hX.take i)
 have t1:=val_lt (hX.take i)
 have d0:=val_nonneg (hX.drop (i+2))
 have t2:val (X.take i) < 4294967296 ^ i:=by
  have:(4294967296:Int) ^ (X.take i).length<=4294967296 ^ i:=pow_mono32 (by rw [List.length_take]; omega)
  omega
 obtain ⟨a,ha⟩:∃ a:Nat,val (X.take i)=a:=⟨(val (X.take i)).toNat,by omega⟩
 obtain ⟨w,hw⟩:∃ a:Nat,X.getD i 0+X.getD (i+1) 0*4294967296=a:=⟨(X.getD i 0+X.getD (i+1) 0*4294967296).toNat,by omega⟩
 obtain ⟨d,hd⟩:∃ a:Nat,val (X.drop (i+2))=a:=⟨(val (X.drop (i+2))).toNat,by omega⟩
 have h2:(val X).toNat=a+4294967296 ^ i*(w+4294967296*4294967296*d):=by
  have e:val X=((a+4294967296 ^ i*(w+4294967296*4294967296*d):Nat):Int):=by
   have e1:X.getD i 0+4294967296*X.getD (i+1) 0=w:=by rw [<-hw,Int.mul_comm]
   have c:((4294967296 ^ i:Nat):Int)=4294967296 ^ i:=by simp
   rw [h1,ha,hd,e1]
   simp only [Int.natCast_add,Int.natCast_mul,c]
   generalize (4294967296:Int) ^ i=p
   grind
  omega
 have hB:0 < 4294967296 ^ i:=Nat.pow_pos (by decide)
 have ha':a < 4294967296 ^ i:=by
  have:((4294967296 ^ i:Nat):Int)=4294967296 ^ i:=by simp
  omega
 have h3:(val X).toNat / 4294967296 ^ i=w+4294967296*4294967296*d:=by
  rw [h2,Nat.add_mul_div_left _ _ hB,Nat.div_eq_of_lt ha',Nat.zero_add]
 have hpq:2 ^ n*2 ^ (32 - n)=4294967296:=by
  rw [<-Nat.pow_add]
  have:n+(32 - n)=32:=by omega
  rw [this]
 rw [hw,Nat.div_div_eq_div_mul,Nat.mul_comm,<-Nat.div_div_eq_div_mul,h3]
 have h4:w+4294967296*4294967296*d=w+2 ^ n*(4294967296*(2 ^ (32 - n)*d)):=by
  have:4294967296*4294967296*d=2 ^ n*2 ^ (32 - n)*(4294967296*d):=by rw [hpq,Nat.mul_assoc]
  rw [this]; grind
 rw [h4,Nat.add_mul_div_left _ _ hp,Nat.add_mul_mod_self_left]
 simp
theorem NInv.step {X:List Int} (hX:Ok32 X) {n:Nat} (hn:n<=32) {i y:Int} {o:List Int} (h:NInv X n i o) (hi:i < X.length) (hy:y=X.getD i.toNat 0+X.getD (i.toNat+1) 0*4294967296) :
  NInv X n (i+1) (o.set i.toNat ((y.toNat / 2 ^ n % 4294967296:Nat))):=by
 have hi0:=h.i0
 have e:(i+1).toNat=i.toNat+1:=by omega
 have hlt:i.toNat < o.length:=by rw [h.len]; omega
 have hm:y.toNat / 2 ^ n % 4294967296 < 4294967296:=Nat.mod_lt _ (by decide)
 refine ⟨by omega,by omega,by rw [List.length_set,h.len],h.ok.set (by omega) (by omega) _,fun j hj=>?_,?_⟩
 ·rw [getD_set hlt,if_neg (by omega)]
  exact h.z j (by omega)
 ·have hv:=h.v
  rw [val_set _ _ _ hlt,h.z _ (Nat.le_refl _),e,hv,Nat.pow_succ,Nat.mod_mul,shr_limb hX hn,<-hy]
  have c:((4294967296 ^ i.toNat:Nat):Int)=4294967296 ^ i.toNat:=by simp
  simp only [Int.natCast_add,Int.natCast_mul,c]
  generalize (4294967296:Int) ^ i.toNat=p
  grind
theorem NInv.last {X:List Int} (hX:Ok32 X) {n:Nat} {i:Int} {o:List Int} (h:NInv X n i o) (hi:i=X.length):val o=((val X).toNat / 2 ^ n:Nat):=by
 have hv:=h.v
 have h0:=val_nonneg hX
 have h1:=val_lt hX
 have e:i.toNat=X.length:=by omega
 rw [e,Nat.mod_eq_of_lt] at hv
 ·exact hv
 ·have:((4294967296 ^ X.length:Nat):Int)=4294967296 ^ X.length:=by simp
  have h2:(val X).toNat / 2 ^ n<=(val X).toNat:=Nat.div_le_self _ _
  omega
theorem shl64 {x:Int} {n:Nat} (x0:0<=x) (x1:x < 4294967296) (hn:n<=32):std.ib .shl .u64 (std.cv .u64 x) (n:Int)=x*((2 ^ n:Nat):Int):=by
 have hpn:2 ^ n<=2 ^ 32:=Nat.pow_le_pow_right (by decide) hn
 have h32:2 ^ 32=4294967296:=by decide
 have h0:0<=x*((2 ^ n:Nat):Int):=Int.mul_nonneg x0 (Int.natCast_nonneg _)
 have h1:x*((2 ^ n:Nat):Int)<=4294967295*4294967296:=Int.mul_le_mul (by omega) (by omega) (Int.natCast_nonneg _) (by decide)
 have hm:min ((n:Int).toNat) IntKind.u64.bits=n:=by show min ((n:Int).toNat) 64=n; omega
 have hc:(2:Int) ^ n=((2 ^ n:Nat):Int):=by simp
 rw [s_cv,wu64 x0 (by omega),s_shl,hm,hc,wu64 h0 (by omega)]
theorem shr64 {x:Int} {n:Nat} (x0:0<=x) (hn:n<=32):std.ib .shr .u64 x (n:Int)=((x.toNat / 2 ^ n:Nat):Int):=by
 have hm:min ((n:Int).toNat) IntKind.u64.bits=n:=by show min ((n:Int).toNat) 64=n; omega
 have hc:(2:Int) ^ n=((2 ^ n:Nat):Int):=by simp
 have h:(x.toNat:Int)=x:=by omega
 rw [s_shr,hm,hc,Int.fdiv_eq_ediv_of_nonneg _ (Int.natCast_nonneg _),Int.natCast_ediv,h]
theorem shift_core (xs r:List Int) (n:Nat) (hx:Ok32 xs) (ha:xs.length<=137438953472) (hn:n<=32) (r1:Ok32 r) (r2:r.length=xs.length+1) (r3:val r=val xs*((2 ^ n:Nat):Int)):Con Tryz.prog 318 [.ro cU xs,.v (.int .i64 n)] (.own 195 cU r):=by
 obtain ⟨s,hs⟩:∃ s:Int,s=n:=⟨_,rfl⟩
 have hs0:0<=s:=by omega
 rw [<-hs]
 refine Con.of ttOk mixed Tryz.func318 {} .nil 0 (by kernel_rfl) (fun P' E hP hE=>?_)
 have hl1:std.ib .add .i64 (std.len Int xs) 1=(xs.length:Int)+1:=by
  rw [s_add,s_len,w64 (by omega) (by omega)]
 have hmk:std.rng 0 (std.ib .add .i64 (std.len Int xs) 1) (std.ib .add .i64 (std.len Int xs) 1)/\std.fits (std.ib .add .i64 (std.len Int xs) 1) 4:=by
  rw [hl1,s_rng,s_fits]; omega
 obtain ⟨i0,hi0⟩:∃ i:Int,i=0:=⟨_,rfl⟩
 obtain ⟨o0,ho0⟩:∃ b:List Int,b=List.replicate (xs.length+1) 0:=⟨_,rfl⟩
 have hrep:std.rep Int (std.ib .add .i64 (std.len Int xs) 1) 0=o0:=by
  have e:((xs.length:Int)+1).toNat=xs.length+1:=by omega
  rw [hl1,s_rep,e,ho0]
 have hz:=HInv.zero (n:=n) hi0 ho0
 clear ho0
 cbv
 refine ⟨by subst hE; exact hmk,?_⟩
 cbv
 refine LoopTo.by (ι:=Int × List Int) (fun x=>[(15,.v (.int .i64 x.1))]) (fun x=>[(2,.row true 195 cU x.2)]) (fun x=>HInv xs n x.1 x.2) (fun x=>(xs.length - x.1).toNat) (i0,o0) [] hz ?_ ?_
 ·cbv
  subst hE
  and_intros
  all_goals first
   | exact Sm.of hrep
   | exact congrArg (Value.int _) hi0.symm
   | (simp; done)
 ·rintro ⟨i,o⟩ hi
  have hi:HInv xs n i o:=hi
  cbv
  refine ⟨fun h2=>?_,fun h2=>?_⟩
  ·have hlt:i < xs.length:=by
    subst hE
    have h:std.ic .lss i (std.len Int xs)=true:=h2
    simpa using h
   have hge:=hi.i0
   have g:=hx.get i.toNat
   have hq:=hi.step hx hn hlt rfl
   have hy:std.ib .shl .u64 (std.cv .u64 (std.get Int xs i 0)) s=xs.getD i.toNat 0*((2 ^ n:Nat):Int):=by
    rw [s_get,hs]
    exact shl64 g.1 g.2 hn
   obtain ⟨c,p1,p2,p3,p4⟩:=shl_parts g.1 g.2 hn
   have ho:=hi.ok.get i.toNat
   have hc:=hi.c
   have hpn:2 ^ n<=2 ^ 32:=Nat.pow_le_pow_right (by decide) hn
   have h32:2 ^ 32=4294967296:=by decide
   generalize xs.getD i.toNat 0*((2 ^ n:Nat):Int)=y at *
   have hor:std.ib .or .u32 (std.get Int o i 0) (std.cv .u32 (std.ib .shl .u64 (std.cv .u64 (std.get Int xs i 0)) s))=o.getD i.toNat 0+y % 4294967296:=by
    rw [hy,s_get,s_cv,IntKind.wrap_u32]
    exact or32 n ho.1 hc p1 (by omega)
   have hi1:std.ib .add .i64 i 1=i+1:=by
    have hlt:i < (xs.length:Int):=hlt
    rw [s_add,w64 (by omega) (by omega)]
   have hhi:std.cv .u32 (std.ib .shr .u64 (std.ib .shl .u64 (std.cv .u64 (std.get Int xs i 0)) s) 32)=y / 4294967296:=by
    have h:y.fdiv (2 ^ (min (32:Int).toNat IntKind.u64.bits))=y / 4294967296:=Int.fdiv_eq_ediv_of_nonneg _ (by decide)
    rw [hy,s_shr,h,s_cv,wu32 p3 (by omega)]
   obtain ⟨i',hi'⟩:∃ j,j=i+1:=⟨_,rfl⟩
   obtain ⟨o',ho'⟩:∃ j,j=(o.set i.toNat (o.getD i.toNat 0+y % 4294967296)).set (i+1).toNat (y / 4294967296):=⟨_,rfl⟩
   rw [<-ho',<-hi'] at hq
   have hrow:std.set Int (std.set Int o i (std.ib .or .u32 (std.get Int o i 0) (std.cv .u32 (std.ib .shl .u64 (std.cv .u64 (std.get Int xs i 0)) s)))) (std.ib .add .i64 i 1) (std.cv .u32 (std.ib .shr .u64 (std.ib .shl .u64 (std.cv .u64 (std.get Int xs i 0)) s) 32))=o':=by
    rw [hor,hhi,hi1,s_set,s_set,ho']
   have hin1:std.inb i (std.ib .add .i64 (std.len Int xs) 1):=by
    have hlt:i < (xs.length:Int):=hlt
    have hl1:std.ib .add .i64 (std.len Int xs) 1=(xs.length:Int)+1:=hl1
    rw [hl1,s_inb]; omega
   have hin2:std.inb (std.ib .add .i64 i 1) (std.ib .add .i64 (std.len Int xs) 1):=by
    have hlt:i < (xs.length:Int):=hlt
    have hl1:std.ib .add .i64 (std.len Int xs) 1=(xs.length:Int)+1:=hl1
    rw [hl1,hi1,s_inb]; omega
   cbv
   refine ⟨by subst hE; exact ⟨hge,hlt⟩,?_⟩
   cbv
   refine ⟨by subst hE; exact hs0,?_⟩
   cbv
   refine ⟨by subst hE; exact hin1,?_⟩
   cbv
   refine ⟨by subst hE; exact hin1,?_⟩
   cbv
   refine ⟨by subst hE; simp,?_⟩
   cbv
   refine ⟨by subst hE; exact hin2,?_⟩
   cbv
   refine ⟨(i',o'),[0,1,2],hq,by have hlt:i < (xs.length:Int):=hlt; show ((xs.length:Int) - i').toNat < ((xs.length:Int) - i).toNat; omega,?_⟩
   cbv
   subst hE
   and_intros
   all_goals first
    | exact Sm.of hrow
    | exact vi (hi1.trans hi'.symm)
    | (simp; done)
  ·have he:i=xs.length:=by
    subst hE
    have h:std.ic .lss i (std.len Int xs)=false:=h2
    have h:¬ i < (xs.length:Int):=by simpa using h
    have:=hi.i1
    omega
   have q:=hi.last he r1 r2 r3
   have hres:std.tk Int o (std.ib .add .i64 (std.len Int xs) 1)=r:=by
    have e:((xs.length:Int)+1).toNat=xs.length+1:=by omega
    rw [hl1,s_tk,e,List.take_of_length_le (by rw [hi.len]; exact Nat.le_refl _),q]
   cbv
   subst hE
   exact Sm.of hres
theorem unshift_core (xs r:List Int) (n:Nat) (hx:Ok32 xs) (ha:xs.length<=137438953472) (hn:n<=32) (hr:r=lb ((val xs).toNat / 2 ^ n)):Con Tryz.prog 294 [.ro cU xs,.v (.int .i64 n)] (.own 195 cU r):=by
 obtain ⟨s,hs⟩:∃ s:Int,s=n:=⟨_,rfl⟩
 have hs0:0<=s:=by omega
 rw [<-hs]
 refine Con.of ttOk mixed Tryz.func294 {} .nil 0 (by kernel_rfl) (fun P' E hP hE=>?_)
 have hmk:∀ X:List Int,X.length<=137438953472->std.rng 0 (std.len Int X) (std.len Int X)/\std.fits (std.len Int X) 4:=by
  intro X h
  rw [s_len,s_rng,s_fits]; omega
 obtain ⟨i0,hi0⟩:∃ i:Int,i=0:=⟨_,rfl⟩
 obtain ⟨o0,ho0⟩:∃ b:List Int,b=List.replicate xs.length 0:=⟨_,rfl⟩
 have hrep:std.rep Int (std.len Int xs) 0=o0:=by rw [s_rep,s_len,Int.toNat_natCast,ho0]
 have hz:=NInv.zero (n:=n) hi0 ho0
 clear ho0
 cbv
 refine ⟨by subst hE; exact hmk xs ha,?_⟩
 cbv
 refine LoopTo.by (ι:=Int × List Int) (fun x=>[(13,.v (.int .i64 x.1))]) (fun x=>[(2,.row true 195 cU x.2)]) (fun x=>NInv xs n x.1 x.2) (fun x=>(xs.length - x.1).toNat) (i0,o0) [] hz ?_ ?_
 ·cbv
  subst hE
  and_intros
  all_goals first
   | exact Sm.of hrep
   | exact congrArg (Value.int _) hi0.symm
   | (simp; done)
 ·rintro ⟨i,o⟩ hi
  have hi:NInv xs n i o:=hi
  cbv
  refine ⟨fun h2=>?_,fun h2=>?_⟩
  ·have hlt:i < xs.length:=by
    subst hE
    have h:std.ic .lss i (std.len Int xs)=true:=h2
    simpa using h
   have hge:=hi.i0
   have g:=hx.get i.toNat
   have g1:=hx.get (i.toNat+1)
   have hi1:std.ib .add .i64 i 1=i+1:=by
    have hlt:i < (xs.length:Int):=hlt
    rw [s_add,w64 (by omega) (by omega)]
   have e1:(i+1).toNat=i.toNat+1:=by omega
   obtain ⟨y,hy⟩:∃ y,y=xs.getD i.toNat 0+xs.getD (i.toNat+1) 0*4294967296:=⟨_,rfl⟩
   have hq:=hi.step hx hn hlt hy
   have hy0:0<=y:=by omega
   have hsh:std.cv .u32 (std.ib .shr .u64 y s)=((y.toNat / 2 ^ n % 4294967296:Nat):Int):=by
    rw [hs,shr64 hy0 hn,s_cv,IntKind.wrap_u32]
    generalize y.toNat / 2 ^ n=w
    omega
   obtain ⟨i',hi'⟩:∃ j,j=i+1:=⟨_,rfl⟩
   obtain ⟨o',ho'⟩:∃ j,j=o.set i.toNat ((y.toNat / 2 ^ n % 4294967296:Nat):Int):=⟨_,rfl⟩
   rw [<-ho',<-hi'] at hq
   have hin:std.inb i (std.len Int xs):=by
    rw [s_inb,s_len]; exact ⟨hge,hlt⟩
   cbv
   refine ⟨by subst hE; exact hin,?_⟩
   cbv
   refine ⟨fun h3=>?_,fun h3=>?_⟩
   ·have h3':i+1 < xs.length:=by
     subst hE
     have h:std.ic .lss (std.ib .add .i64 i 1) (std.len Int xs)=true:=h3
     rw [hi1] at h
     simpa using h
    have hin2:std.inb (std.ib .add .i64 i 1) (std.len Int xs):=by
     rw [hi1,s_inb,s_len]; exact ⟨by omega,h3'⟩
    have hyv:std.ib .or .u64 (std.cv .u64 (std.get Int xs i 0)) (std.ib .shl .u64 (std.cv .u64 (std.get Int xs (std.ib .add .i64 i 1) 0)) 32)=y:=by
     have h2:((2 ^ 32:Nat):Int)=4294967296:=by decide
     have h4:std.ib .shl .u64 (std.cv .u64 (xs.getD (i.toNat+1) 0)) ((32:Nat):Int)=xs.getD (i.toNat+1) 0*((2 ^ 32:Nat):Int):=shl64 g1.1 g1.2 (by decide)
     have h5:std.ib .shl .u64 (std.cv .u64 (xs.getD (i.toNat+1) 0)) 32=xs.getD (i.toNat+1) 0*4294967296:=by rw [<-h2,<-h4]; rfl
     rw [hi1,s_get,s_get,e1,h5,s_cv,wu64 g.1 (by omega),hy]
     exact (or64 (a:=xs.getD i.toNat 0) (b:=xs.getD (i.toNat+1) 0*4294967296) 32 (c:=(xs.getD (i.toNat+1) 0).toNat) g.1 (by rw [h2]; exact g.2) (by rw [Int.natCast_mul,h2]; omega) (by omega)).1
    have hrow:std.set Int o i (std.cv .u32 (std.ib .shr .u64 (std.ib .or .u64 (std.cv .u64 (std.get Int xs i 0)) (std.ib .shl .u64 (std.cv .u64 (std.get Int xs (std.ib .add .i64 i 1) 0)) 32)) s))=o':=by
     rw [hyv,hsh,s_set,ho']
    cbv
    refine ⟨by subst hE; exact hin2,?_⟩
    cbv
    refine ⟨by subst hE; simp,?_⟩
    cbv
    refine ⟨by subst hE; exact hs0,?_⟩
    cbv
    refine ⟨by subst hE; exact hin,?_⟩
    cbv
    refine ⟨(i',o'),[0,1,2],hq,by have hlt:i < (xs.length:Int):=hlt; show ((xs.length:Int) - i').toNat < ((xs.length:Int) - i).toNat; omega,?_⟩
    cbv
    subst hE
    and_intros
    all_goals first
     | exact Sm.of hrow
     | exact vi (hi1.trans hi'.symm)
     | (simp; done)
   ·have h3':¬ i+1 < xs.length:=by
     subst hE
     have h:std.ic .lss (std.ib .add .i64 i 1) (std.len Int xs)=false:=h3
     rw [hi1] at h
     simpa using h
    have hyv:std.cv .u64 (std.get Int xs i 0)=y:=by
     have h4:xs.getD (i.toNat+1) 0=0:=getD_ge (by omega)
     rw [s_get,s_cv,wu64 g.1 (by omega),hy,h4]; omega
    have hrow:std.set Int o i (std.cv .u32 (std.ib .shr .u64 (std.cv .u64 (std.get Int xs i 0)) s))=o':=by
     rw [hyv,hsh,s_set,ho']
    cbv
    refine ⟨by subst hE; exact hs0,?_⟩
    cbv
    refine ⟨by subst hE; exact hin,?_⟩
    cbv
    refine ⟨(i',o'),[0,1,2],hq,by have hlt:i < (xs.length:Int):=hlt; show ((xs.length:Int) - i').toNat < ((xs.length:Int) - i).toNat; omega,?_⟩
    cbv
    subst hE
    and_intros
    all_goals first
     | exact Sm.of hrow
     | exact vi (hi1.trans hi'.symm)
     | (simp; done)
  ·have he:i=xs.length:=by
    subst hE
    have h:std.ic .lss i (std.len Int xs)=false:=h2
    have h:¬ i < (xs.length:Int):=by simpa using h
    have:=hi.i1
    omega
   have q:=hi.last hx he
   have hc:=trim_con o (by rw [hi.len]; omega)
   obtain ⟨m,hm⟩:∃ n,n=tlen o:=⟨_,rfl⟩
   rw [<-hm] at hc
   have hrow:std.tk Int o (std.len Int xs)=o:=by
    rw [s_tk,s_len,List.take_of_length_le (by rw [hi.len]; omega)]
   have hres:std.tk Int o m=r:=by
    rw [s_tk,hm,Int.toNat_natCast,take_tlen hi.ok,q,hr,Int.toNat_natCast]
   cbv
   refine CallTo.con hP hE hc ?_ ?_
   ·subst hE
    exact ⟨Sm.of hrow,trivial⟩
   ·cbv
    subst hE
    exact Sm.of hres
structure DG (N D W Y top u2 v1 v2 p low vl:Int):Prop where
 p0:0 < p
 l0:0<=low
 l1:low < p
 w0:0<=vl
 w1:vl < p
 eN:N=W*p+low
 eD:D=Y*p+vl
 eW:W=top*4294967296+u2
 eY:Y=v1*4294967296+v2
 u0:0<=u2
 u1:u2 < 4294967296
 v20:0<=v2
 v21:v2 < 4294967296
 v10:1<=v1
 v11:v1 < 4294967296
 t0:0<=top
 t1:top < 18446744073709551616
 lt:N < 4294967296*D
section
variable {N D W Y top u2 v1 v2 p low vl:Int}
theorem DG.D0 (h:DG N D W Y top u2 v1 v2 p low vl):0 < D/\4294967296*p<=D:=by
 have h1:=h.p0
 have h2:=h.w0
 have h3:4294967296<=Y:=by have:=h.eY; have:=h.v10; have:=h.v20; omega
 have h4:4294967296*p<=Y*p:=Int.mul_le_mul_of_nonneg_right h3 (by omega)
 have h5:=h.eD
 omega
theorem DG.q (h:DG N D W Y top u2 v1 v2 p low vl):0<=N / D/\N / D < 4294967296/\N / D*Y<=W:=by
 have hD:=h.D0.1
 have hp:=h.p0
 have hW0:0<=W:=by have:=h.eW; have:=h.t0; have:=h.u0; omega
 have hN0:0<=N:=by
  have:=h.eN; have:=h.l0
  have:0<=W*p:=Int.mul_nonneg hW0 (by omega)
  omega
 have q0:0<=N / D:=Int.ediv_nonneg hN0 (by omega)
 refine ⟨q0,Int.ediv_lt_of_lt_mul hD h.lt,?_⟩
 have h1:N / D*D<=N:=Int.ediv_mul_le _ (by omega)
 generalize N / D=q at *
 have h2:q*Y*p<=q*D:=by
  rw [h.eD,Int.mul_add,Int.mul_assoc]
  have:=Int.mul_nonneg q0 h.w0
  omega
 have h3:q*Y*p < (W+1)*p:=by
  have:=h.eN; have:=h.l1
  have e:(W+1)*p=W*p+p:=by rw [Int.add_mul,Int.one_mul]
  omega
 have h4:=Int.lt_of_mul_lt_mul_right h3 (by omega)
 omega
theorem DG.first (h:DG N D W Y top u2 v1 v2 p low vl):N / D<=top / v1/\0<=top / v1/\top / v1 < 18446744073709551616/\top / v1*v1+top % v1=top/\0<=top % v1:=by
 obtain ⟨q0,q1,q2⟩:=h.q
 have h1:=h.v10
 have h2:=h.v20
 have ht:=h.t0
 have ht1:=h.t1
 generalize N / D=q at *
 refine ⟨?_,Int.ediv_nonneg ht (by omega),?_,?_,Int.emod_nonneg _ (by omega)⟩
 ·refine Int.le_ediv_of_mul_le (by omega) ?_
  rw [h.eY,Int.mul_add] at q2
  have:=Int.mul_nonneg q0 h2
  have e:q*(v1*4294967296)=q*v1*4294967296:=by rw [Int.mul_assoc]
  have:=h.eW
  have:=h.u1
  omega
 ·have:=Int.ediv_le_self v1 ht
  exact Int.lt_of_le_of_lt this ht1
 ·rw [Int.mul_comm]
  exact Int.mul_ediv_add_emod _ _
theorem DG.down (h:DG N D W Y top u2 v1 v2 p low vl) {g r:Int} (hs:g*v1+r=top) (hq:N / D<=g) (hc:4294967296<=g\/r*4294967296+u2 < g*v2):N / D<=g - 1:=by
 obtain ⟨q0,q1,q2⟩:=h.q
 rcases hc with c | c
 ·omega
 ·have hY:0 < Y:=by have:=h.eY; have:=h.v10; have:=h.v20; omega
  have h1:W < g*Y:=by
   rw [h.eW,h.eY,Int.mul_add,<-hs]
   have e:g*(v1*4294967296)=g*v1*4294967296:=by rw [Int.mul_assoc]
   omega
  generalize N / D=q at *
  have h2:q*Y < g*Y:=by omega
  have:=Int.lt_of_mul_lt_mul_right h2 (by omega)
  omega
theorem DG.stop (h:DG N D W Y top u2 v1 v2 p low vl) {g r:Int} (hs:g*v1+r=top) (g0:0<=g) (g1:g < 4294967296) (hc:4294967296<=r\/g*v2<=r*4294967296+u2):g<=N / D+1:=by
 have hp:=h.p0
 have hgv:g*v2<=r*4294967296+u2:=by
  rcases hc with c | c
  ·have h1:g*v2<=4294967295*4294967295:=Int.mul_le_mul (by omega) (by have:=h.v21; omega) h.v20 (by decide)
   have:=h.u0
   omega
  ·exact c
 have h1:g*Y<=W:=by
  rw [h.eW,h.eY,Int.mul_add,<-hs]
  have e:g*(v1*4294967296)=g*v1*4294967296:=by rw [Int.mul_assoc]
  omega
 have h2:g*Y*p<=W*p:=Int.mul_le_mul_of_nonneg_right h1 (by omega)
 have h3:g*vl<=4294967295*vl:=Int.mul_le_mul_of_nonneg_right (by omega) h.w0
 have h4:(g - 1)*D<=N:=by
  have e:(g - 1)*D=g*Y*p+g*vl - D:=by rw [Int.sub_mul,Int.one_mul,h.eD,Int.mul_add,Int.mul_assoc]
  have:=h.eN; have:=h.l0; have:=h.D0.2; have:=h.w1
  omega
 have:=Int.le_ediv_of_mul_le h.D0.1 h4
 omega
end
/-- Where a digit is to be found. -/
structure DS (vs us:List Int) (i:Int):Prop where
 vok:Ok32 vs
 uok:Ok32 us
 k2:2<=vs.length
 top:4294967296 ^ (vs.length - 1)<=val vs
 i0:0<=i
 len:i.toNat+vs.length < us.length
 lt:val us < 4294967296*(val vs*4294967296 ^ i.toNat)
theorem val_drop' (xs:List Int) (i:Nat):val (xs.drop i)=xs.getD i 0+4294967296*val (xs.drop (i+1)):=by
 by_cases h:i < xs.length
 ·rw [List.drop_eq_getElem_cons h,val,List.getD_eq_getElem?_getD,List.getElem?_eq_getElem h]; rfl
 ·rw [List.drop_eq_nil_of_le (by omega),List.drop_eq_nil_of_le (by omega),getD_ge (by omega)]; rfl
theorem val_cut (xs:List Int) (i:Nat):val xs=val (xs.take i)+4294967296 ^ i*val (xs.drop i):=by
 by_cases h:i<=xs.length
 ·exact val_split h
 ·rw [List.take_of_length_le (by omega),List.drop_eq_nil_of_le (by omega)]; simp [val]
theorem val_take_lt {xs:List Int} (h:Ok32 xs) (i:Nat):0<=val (xs.take i)/\val (xs.take i) < 4294967296 ^ i:=by
 refine ⟨val_nonneg (h.take i),?_⟩
 have h1:=val_lt (h.take i)
 have:(4294967296:Int) ^ (xs.take i).length<=4294967296 ^ i:=pow_mono32 (by rw [List.length_take]; omega)
 omega
theorem drop_zero {xs:List Int} (h:Ok32 xs) {i:Nat} (hv:val xs < 4294967296 ^ i):val (xs.drop i)=0:=by
 have h1:=val_cut xs i
 have h2:=val_take_lt h i
 have h3:=val_nonneg (h.drop i)
 have hp:=pow_pos32 i
 refine Decidable.byContradiction fun c=>?_
 have h4:4294967296 ^ i*1<=4294967296 ^ i*val (xs.drop i):=Int.mul_le_mul_of_nonneg_left (by omega) (by omega)
 omega
theorem get_zero {xs:List Int} (h:Ok32 xs) {i:Nat} (hv:val xs < 4294967296 ^ i) {j:Nat} (hj:i<=j):xs.getD j 0=0:=by
 have h1:val xs < 4294967296 ^ j*1:=by
  have:(4294967296:Int) ^ i<=4294967296 ^ j:=pow_mono32 hj
  omega
 have:=get_lt h h1
 have:=(h.get j).1
 omega
/-- The parts of the numbers that a digit depends on. -/
theorem DS.dg {vs us:List Int} {i:Int} (h:DS vs us i):∃ W Y p low vl,DG (val us) (val vs*4294967296 ^ i.toNat) W Y (us.getD (i.toNat+vs.length) 0*4294967296+us.getD (i.toNat+vs.length - 1) 0) (us.getD (i.toNat+vs.length - 2) 0) (vs.getD (vs.length - 1) 0) (vs.getD (vs.length - 2) 0) p low vl/\val us < 4294967296 ^ (i.toNat+vs.length+1):=by
 have k2:=h.k2
 obtain ⟨k,hk⟩:∃ k,vs.length=k+2:=⟨vs.length - 2,by omega⟩
 have hvl:=val_lt h.vok
 have hN:val us < 4294967296 ^ (i.toNat+vs.length+1):=by
  have h1:val vs*4294967296 ^ i.toNat<=4294967296 ^ vs.length*4294967296 ^ i.toNat:=Int.mul_le_mul_of_nonneg_right (by omega) (Int.le_of_lt (pow_pos32 _))
  have h2:(4294967296:Int) ^ (i.toNat+vs.length+1)=4294967296*(4294967296 ^ vs.length*4294967296 ^ i.toNat):=by
   rw [Int.pow_succ,Int.pow_add]; grind
  have:=h.lt
  rw [h2]
  omega
 have g0:=h.uok.get (i.toNat+vs.length)
 have g1:=h.uok.get (i.toNat+vs.length - 1)
 have g2:=h.uok.get (i.toNat+vs.length - 2)
 have f1:=h.vok.get (vs.length - 1)
 have f2:=h.vok.get (vs.length - 2)
 have hu:=val_cut us (i.toNat+k)
 have hz:=drop_zero h.uok hN
 have e1:=val_drop' us (i.toNat+k)
 have e2:=val_drop' us (i.toNat+k+1)
 have e3:=val_drop' us (i.toNat+k+2)
 have x0:i.toNat+vs.length=i.toNat+k+2:=by omega
 have x1:i.toNat+vs.length - 1=i.toNat+k+1:=by omega
 have x2:i.toNat+vs.length - 2=i.toNat+k:=by omega
 have y1:vs.length - 1=k+1:=by omega
 have y2:vs.length - 2=k:=by omega
 have hv:=val_cut vs k
 have d1:=val_drop' vs k
 have d2:=val_drop' vs (k+1)
 have d3:vs.drop (k+1+1)=[]:=List.drop_eq_nil_of_le (by omega)
 rw [d3] at d2
 have d4:val ([]:List Int)=0:=rfl
 rw [d4] at d2
 have lu:=val_take_lt h.uok (i.toNat+k)
 have lv:=val_take_lt h.vok k
 have ht:=h.top
 have hlt:=h.lt
 rw [x0] at hz g0 hN ⊢
 rw [x0] at x1 x2 g1 g2
 have x3:i.toNat+k+2 - 1=i.toNat+k+1:=by omega
 have x4:i.toNat+k+2 - 2=i.toNat+k:=by omega
 rw [x3] at g1 ⊢
 rw [x4] at g2 ⊢
 rw [y1] at f1 ht ⊢
 rw [y2] at f2 ⊢
 rw [hz] at e3
 have hpp:(4294967296:Int) ^ (i.toNat+k)=4294967296 ^ k*4294967296 ^ i.toNat:=by rw [Int.pow_add,Int.mul_comm]
 have pi:=pow_pos32 i.toNat
 have pk:=pow_pos32 k
 have hvv:val vs=val (vs.take k)+4294967296 ^ k*(vs.getD k 0+4294967296*vs.getD (k+1) 0):=by rw [hv,d1,d2]; grind
 refine ⟨(us.getD (i.toNat+k+2) 0*4294967296+us.getD (i.toNat+k+1) 0)*4294967296+us.getD (i.toNat+k) 0,vs.getD (k+1) 0*4294967296+vs.getD k 0,4294967296 ^ (i.toNat+k),val (us.take (i.toNat+k)),val (vs.take k)*4294967296 ^ i.toNat,⟨pow_pos32 _,lu.1,lu.2,Int.mul_nonneg lv.1 (by omega),?_,?_,?_,rfl,rfl,g2.1,g2.2,f2.1,f2.2,?_,f1.2,by omega,by omega,hlt⟩,hN⟩
 ·rw [hpp]
  exact Int.mul_lt_mul_of_pos_right lv.2 pi
 ·rw [hu,e1,e2,e3]
  generalize (4294967296:Int) ^ (i.toNat+k)=p
  grind
 ·rw [hvv,hpp]
  generalize (4294967296:Int) ^ i.toNat=p
  generalize (4294967296:Int) ^ k=p'
  grind
 ·refine Decidable.byContradiction fun c=>?_
  have c:vs.getD (k+1) 0=0:=by omega
  rw [c] at hvv
  rw [Int.pow_succ] at ht
  have h1:4294967296 ^ k*(vs.getD k 0+4294967296*0)<=4294967296 ^ k*4294967295:=Int.mul_le_mul_of_nonneg_left (by omega) (by omega)
  omega
end Go.Proofs.YtkipmmiiackdaaaGreat.Sx
namespace Go.Proofs.YtkipmmiiackdaaaGreat.Sx
open Env (std)
theorem drop_zeros (xs:List Int):∀ (k n:Nat),xs.length<=n+k->(∀ m,n<=m->xs.getD m 0=0)->val (xs.drop n)=0
 | 0,n,hl,_=>by rw [List.drop_eq_nil_of_le (by omega)]; rfl
 | k+1,n,hl,hz=>by
  rw [val_drop',hz n (Nat.le_refl _),drop_zeros xs k (n+1) (by omega) (fun m hm=>hz m (by omega))]; rfl
theorem lt_of_zeros {xs:List Int} (h:Ok32 xs) {n:Nat} (hz:∀ m,n<=m->xs.getD m 0=0):val xs < 4294967296 ^ n:=by
 have h1:=val_cut xs n
 rw [drop_zeros xs xs.length n (by omega) hz] at h1
 have:=val_take_lt h n
 omega
structure BInv (vs us:List Int) (i g j c b:Int) (o:List Int):Prop where
 j0:0<=j
 j1:j<=vs.length
 len:o.length=us.length
 ok:Ok32 o
 c0:0<=c
 c1:c < 4294967296
 b0:0<=b
 b1:b<=1
 keep:∀ m,i.toNat+j.toNat<=m->o.getD m 0=us.getD m 0
 v:val o=val us - g*val (vs.take j.toNat)*4294967296 ^ i.toNat+(c+b)*4294967296 ^ (i.toNat+j.toNat)
theorem BInv.zero {vs us:List Int} {i g j:Int} (h:DS vs us i) (hj:j=0):BInv vs us i g j j j us:=by
 subst hj
 exact ⟨by omega,by omega,rfl,h.uok,by omega,by omega,by omega,by omega,fun _ _=>rfl,by simp [val]⟩
theorem BInv.step {vs us:List Int} {i g j c b t d b':Int} {o:List Int} (hs:DS vs us i) (g0:0<=g) (g1:g < 4294967296) (h:BInv vs us i g j c b o) (hj:j < vs.length) (ht:t=c+g*vs.getD j.toNat 0) (hd:d=(o.getD (i+j).toNat 0 - t % 4294967296 - b) % 4294967296) (hb:b' = - ((o.getD (i+j).toNat 0 - t % 4294967296 - b) / 4294967296)) :
  0<=t/\t < 18446744073709551616/\BInv vs us i g (j+1) (t / 4294967296) b' (o.set (i+j).toNat d):=by
 have hi0:=hs.i0
 have hj0:=h.j0
 have hl:=hs.len
 have f:=hs.vok.get j.toNat
 have hp:=prod_lt g0 g1 f.1 f.2
 have ho:=h.ok.get (i+j).toNat
 have hc0:=h.c0
 have hc1:=h.c1
 have hb0:=h.b0
 have hb1:=h.b1
 have e:(j+1).toNat=j.toNat+1:=by omega
 have e2:(i+j).toNat=i.toNat+j.toNat:=by omega
 have hlt:(i+j).toNat < o.length:=by rw [h.len]; omega
 have t0:0<=t:=by omega
 have t1:t < 18446744073709551616:=by omega
 refine ⟨t0,t1,⟨by omega,by omega,by rw [List.length_set,h.len],h.ok.set (by omega) (by omega) _,by omega,by omega,by omega,by omega,fun m hm=>?_,?_⟩⟩
 ·rw [getD_set hlt,if_neg (by omega)]
  exact h.keep m (by omega)
 ·have hv:=h.v
  rw [val_set _ _ _ hlt,e,val_take_succ,<-Nat.add_assoc,Int.pow_succ,hv]
  rw [e2] at hd hb ⊢
  have hpw:(4294967296:Int) ^ (i.toNat+j.toNat)=4294967296 ^ i.toNat*4294967296 ^ j.toNat:=Int.pow_add _ _ _
  have hd2:d=o.getD (i.toNat+j.toNat) 0 - t % 4294967296 - b+4294967296*b':=by omega
  have ht2:c+g*vs.getD j.toNat 0=t % 4294967296+4294967296*(t / 4294967296):=by omega
  rw [hpw,hd2]
  clear hd hb hd2 ht hv hp
  generalize t / 4294967296=q at *
  generalize t % 4294967296=m at *
  generalize o.getD (i.toNat+j.toNat) 0=u at *
  generalize vs.getD j.toNat 0=y at *
  generalize (4294967296:Int) ^ i.toNat=p at *
  generalize (4294967296:Int) ^ j.toNat=p' at *
  generalize val (vs.take j.toNat)=w at *
  have:m=c+g*y - 4294967296*q:=by omega
  rw [this]
  grind
theorem BInv.last {vs us:List Int} {i g j c b d b':Int} {o:List Int} (hs:DS vs us i) (h:BInv vs us i g j c b o) (hj:j=vs.length) (hd:d=(o.getD (i+vs.length).toNat 0 - c - b) % 4294967296) (hb:b' = - ((o.getD (i+vs.length).toNat 0 - c - b) / 4294967296)) :
  0<=b'/\b'<=1/\(o.set (i+vs.length).toNat d).length=us.length/\Ok32 (o.set (i+vs.length).toNat d)/\(∀ m,i.toNat+vs.length+1<=m->(o.set (i+vs.length).toNat d).getD m 0=0)/\val (o.set (i+vs.length).toNat d)=val us - g*(val vs*4294967296 ^ i.toNat)+b'*4294967296 ^ (i.toNat+vs.length+1):=by
 have hi0:=hs.i0
 have hl:=hs.len
 obtain ⟨W,Y,p,low,vl,hg,hN⟩:=hs.dg
 have ho:=h.ok.get (i+vs.length).toNat
 have hc0:=h.c0
 have hc1:=h.c1
 have hb0:=h.b0
 have hb1:=h.b1
 have e2:(i+vs.length).toNat=i.toNat+vs.length:=by omega
 have e3:j.toNat=vs.length:=by omega
 have hlt:(i+vs.length).toNat < o.length:=by rw [h.len]; omega
 refine ⟨by omega,by omega,by rw [List.length_set,h.len],h.ok.set (by omega) (by omega) _,fun m hm=>?_,?_⟩
 ·rw [getD_set hlt,if_neg (by omega),h.keep m (by omega)]
  exact get_zero hs.uok hN (by omega)
 ·have hv:=h.v
  rw [e3,List.take_of_length_le (by omega)] at hv
  rw [val_set _ _ _ hlt,Int.pow_succ,hv]
  rw [e2] at hd hb ⊢
  have hd2:d=o.getD (i.toNat+vs.length) 0 - c - b+4294967296*b':=by omega
  rw [hd2]
  clear hd hb hd2 hv hg hN
  generalize o.getD (i.toNat+vs.length) 0=u at *
  generalize (4294967296:Int) ^ i.toNat=p at *
  generalize (4294967296:Int) ^ (i.toNat+vs.length)=p' at *
  grind
structure AInv (vs us:List Int) (i j s:Int) (o:List Int):Prop where
 j0:0<=j
 j1:j<=vs.length
 len:o.length=us.length
 ok:Ok32 o
 s0:0<=s
 s1:s<=1
 keep:∀ m,i.toNat+j.toNat<=m->o.getD m 0=us.getD m 0
 v:val o=val us+val (vs.take j.toNat)*4294967296 ^ i.toNat - s*4294967296 ^ (i.toNat+j.toNat)
theorem AInv.zero {vs us:List Int} {i j:Int} (h:Ok32 us) (hj:j=0):AInv vs us i j j us:=by
 subst hj
 exact ⟨by omega,by omega,rfl,h,by omega,by omega,fun _ _=>rfl,by simp [val]⟩
theorem AInv.step {vs us:List Int} {i j s d s':Int} {o:List Int} (hv':Ok32 vs) (hi0:0<=i) (hl:i.toNat+vs.length < us.length) (h:AInv vs us i j s o) (hj:j < vs.length) (hd:d=(o.getD (i+j).toNat 0+vs.getD j.toNat 0+s) % 4294967296) (hs':s'=(o.getD (i+j).toNat 0+vs.getD j.toNat 0+s) / 4294967296) :
  AInv vs us i (j+1) s' (o.set (i+j).toNat d):=by
 have hj0:=h.j0
 have f:=hv'.get j.toNat
 have ho:=h.ok.get (i+j).toNat
 have hs0:=h.s0
 have hs1:=h.s1
 have e:(j+1).toNat=j.toNat+1:=by omega
 have e2:(i+j).toNat=i.toNat+j.toNat:=by omega
 have hlt:(i+j).toNat < o.length:=by rw [h.len]; omega
 refine ⟨by omega,by omega,by rw [List.length_set,h.len],h.ok.set (by omega) (by omega) _,by omega,by omega,fun m hm=>?_,?_⟩
 ·rw [getD_set hlt,if_neg (by omega)]
  exact h.keep m (by omega)
 ·have hv:=h.v
  rw [val_set _ _ _ hlt,e,val_take_succ,<-Nat.add_assoc,Int.pow_succ,hv]
  rw [e2] at hd hs' ⊢
  have hpw:(4294967296:Int) ^ (i.toNat+j.toNat)=4294967296 ^ i.toNat*4294967296 ^ j.toNat:=Int.pow_add _ _ _
  have hd2:d=o.getD (i.toNat+j.toNat) 0+vs.getD j.toNat 0+s - 4294967296*s':=by omega
  rw [hpw,hd2]
  clear hd hs' hd2 hv
  generalize o.getD (i.toNat+j.toNat) 0=u at *
  generalize vs.getD j.toNat 0=y at *
  generalize (4294967296:Int) ^ i.toNat=p at *
  generalize (4294967296:Int) ^ j.toNat=p' at *
  generalize val (vs.take j.toNat)=w at *
  grind
/-- What digit brings about: the quotient, and the rest. -/
structure DEnd (vs us:List Int) (i g:Int) (o:List Int):Prop where
 len:o.length=us.length
 ok:Ok32 o
 eg:g=val us / (val vs*4294967296 ^ i.toNat)
 v:val o=val us - g*(val vs*4294967296 ^ i.toNat)
theorem AInv.last {vs us0 us:List Int} {i g j s d:Int} {o:List Int} (hs:DS vs us0 i) (hlen:us.length=us0.length) (g1:g<=val us0 / (val vs*4294967296 ^ i.toNat)+1)
  (hz:∀ m,i.toNat+vs.length+1<=m->us.getD m 0=0) (hok:Ok32 us) (hv0:val us=val us0 - g*(val vs*4294967296 ^ i.toNat)+4294967296 ^ (i.toNat+vs.length+1))
  (h:AInv vs us i j s o) (hj:j=vs.length) (hd:d=(o.getD (i+vs.length).toNat 0+s) % 4294967296):DEnd vs us0 i (g - 1) (o.set (i+vs.length).toNat d):=by
 have hi0:=hs.i0
 have hl:=hs.len
 have ho:=h.ok.get (i+vs.length).toNat
 have hs0:=h.s0
 have hs1:=h.s1
 obtain ⟨W,Y,p,low,vl,hg,hN⟩:=hs.dg
 have hD:=hg.D0.1
 have e2:(i+vs.length).toNat=i.toNat+vs.length:=by omega
 have e3:j.toNat=vs.length:=by omega
 have hlt:(i+vs.length).toNat < o.length:=by rw [h.len]; omega
 have hok':=h.ok.set (x:=d) (by omega) (by omega) (i+vs.length).toNat
 have hz':∀ m,i.toNat+vs.length+1<=m->(o.set (i+vs.length).toNat d).getD m 0=0:=fun m hm=>by
  rw [getD_set hlt,if_neg (by omega),h.keep m (by omega)]
  exact hz m hm
 have hlt2:=lt_of_zeros hok' hz'
 have hge:=val_nonneg hok'
 have hus:=lt_of_zeros hok hz
 have hv:val (o.set (i+vs.length).toNat d)=val us0 - (g - 1)*(val vs*4294967296 ^ i.toNat)+(1 - (o.getD (i+vs.length).toNat 0+s) / 4294967296)*4294967296 ^ (i.toNat+vs.length+1):=by
  have hv:=h.v
  rw [e3,List.take_of_length_le (by omega)] at hv
  rw [val_set _ _ _ hlt,hv,hv0,e2]
  rw [e2] at hd
  have hd2:d=o.getD (i.toNat+vs.length) 0+s - 4294967296*((o.getD (i.toNat+vs.length) 0+s) / 4294967296):=by omega
  rw [hd2,Int.pow_succ]
  generalize (o.getD (i.toNat+vs.length) 0+s) / 4294967296=w
  generalize o.getD (i.toNat+vs.length) 0=u
  generalize (4294967296:Int) ^ i.toNat=p
  generalize (4294967296:Int) ^ (i.toNat+vs.length)=p'
  grind
 obtain ⟨w,hw⟩:∃ w,w=(o.getD (i+vs.length).toNat 0+s) / 4294967296:=⟨_,rfl⟩
 have hw1:w<=1:=by omega
 have hw0:0<=w:=by omega
 rw [<-hw] at hv
 have hgq:g=val us0 / (val vs*4294967296 ^ i.toNat)+1:=by
  refine Int.le_antisymm g1 ?_
  have h1:val us0 < g*(val vs*4294967296 ^ i.toNat):=by omega
  exact Int.ediv_lt_of_lt_mul hD h1
 have hq:0<=val us0 - (g - 1)*(val vs*4294967296 ^ i.toNat):=by
  have h1:=Int.ediv_mul_le (val us0) (show val vs*4294967296 ^ i.toNat ≠ 0 by omega)
  have h2:g - 1=val us0 / (val vs*4294967296 ^ i.toNat):=by omega
  rw [h2]; omega
 have hw':w=1:=by
  refine Decidable.byContradiction fun c=>?_
  have c:w=0:=by omega
  rw [c] at hv
  omega
 rw [hw'] at hv
 exact ⟨by rw [List.length_set,h.len,hlen],hok',by omega,by rw [hv]; omega⟩
theorem BInv.done {vs us:List Int} {i g:Int} {o:List Int} (hs:DS vs us i) (hg:val us / (val vs*4294967296 ^ i.toNat)<=g) (h1:o.length=us.length) (h2:Ok32 o) (h3:val o=val us - g*(val vs*4294967296 ^ i.toNat)+0*4294967296 ^ (i.toNat+vs.length+1)):DEnd vs us i g o:=by
 obtain ⟨W,Y,p,low,vl,hdg,hN⟩:=hs.dg
 have hD:=hdg.D0.1
 have h4:=val_nonneg h2
 have h5:val o=val us - g*(val vs*4294967296 ^ i.toNat):=by omega
 refine ⟨h1,h2,Int.le_antisymm (Int.le_ediv_of_mul_le hD (by omega)) hg,h5⟩
/-- The quotient so far. -/
structure QInv (a V:Int) (vs:List Int) (m L:Nat) (i:Int) (us qs:List Int):Prop where
 i0 : -1<=i
 i1:i < m
 ulen:us.length=L
 uok:Ok32 us
 ult:val us < V*4294967296 ^ (i+1).toNat
 qlen:qs.length=m
 qok:Ok32 qs
 qz:∀ j:Nat,(j:Int)<=i->qs.getD j 0=0
 v:a=val us+val qs*V
theorem QInv.ds {a V:Int} {vs:List Int} {m L:Nat} {i:Int} {us qs:List Int} (h:QInv a V vs m L i us qs) (hi:0<=i) (hv:Ok32 vs) (hk:2<=vs.length) (ht:4294967296 ^ (vs.length - 1)<=val vs) (hV:V=val vs) (hL:m+vs.length=L):DS vs us i:=by
 have h1:=h.i1
 have h2:=h.ulen
 have h3:=h.ult
 have e:(i+1).toNat=i.toNat+1:=by omega
 rw [e,Int.pow_succ,hV] at h3
 exact ⟨hv,h.uok,hk,ht,hi,by omega,by
  have:val vs*(4294967296 ^ i.toNat*4294967296)=4294967296*(val vs*4294967296 ^ i.toNat):=by
   generalize (4294967296:Int) ^ i.toNat=p
   grind
  omega⟩
theorem QInv.step {a V:Int} {vs:List Int} {m L:Nat} {i g:Int} {us qs o:List Int} (h:QInv a V vs m L i us qs) (hi:0<=i) (hs:DS vs us i) (hV:V=val vs) (hd:DEnd vs us i g o):QInv a V vs m L (i - 1) o (qs.set i.toNat g):=by
 obtain ⟨W,Y,p,low,vl,hdg,hN⟩:=hs.dg
 have hD:=hdg.D0.1
 have hq:=hdg.q
 have h1:=h.i1
 have hg:=hd.eg
 have e:(i - 1+1).toNat=i.toNat:=by omega
 have hlt:i.toNat < qs.length:=by rw [h.qlen]; omega
 refine ⟨by omega,by omega,by rw [hd.len,h.ulen],hd.ok,?_,by rw [List.length_set,h.qlen],h.qok.set (by omega) (by omega) _,fun j hj=>?_,?_⟩
 ·rw [e,hd.v,hg,hV]
  have:=Int.lt_ediv_add_one_mul_self (val us) hD
  rw [Int.add_mul,Int.one_mul] at this
  omega
 ·rw [getD_set hlt,if_neg (by omega)]
  exact h.qz j (by omega)
 ·rw [val_set _ _ _ hlt,h.qz _ (by omega),h.v,hd.v,hV]
  generalize (4294967296:Int) ^ i.toNat=p
  grind
end Go.Proofs.YtkipmmiiackdaaaGreat.Sx
