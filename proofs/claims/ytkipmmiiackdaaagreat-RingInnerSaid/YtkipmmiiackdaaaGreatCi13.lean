/- Part 13 of what the statement needs: an executor of Go texts, arithmetic, and contracts of the functions that are called. -/
import Derived.Test.YtkipmmiiackdaaaGreatCi12
set_option linter.unusedSimpArgs false
set_option linter.unusedVariables false
set_option maxHeartbeats 4000000
set_option maxRecDepth 100000
namespace Go.Proofs.YtkipmmiiackdaaaGreat.Sx
open Env (std)
theorem val_set:∀ (xs:List Int) (j:Nat) (v:Int),j < xs.length->val (xs.set j v)=val xs+(v - xs.getD j 0)*4294967296 ^ j
 | [],j,v,h=>by simp at h
 | x::xs,0,v,h=>by simp [val]; omega
 | x::xs,j+1,v,h=>by
  have ih:=val_set xs j v (by simpa using h)
  simp only [List.set_cons_succ,val,ih,Int.pow_succ]
  have:(x::xs).getD (j+1) 0=xs.getD j 0:=by simp
  rw [this]
  grind
theorem pow_pos32 (j:Nat):(0:Int) < 4294967296 ^ j:=Int.pow_pos (by decide)
theorem pow_mono32 {i j:Nat} (h:i<=j):(4294967296:Int) ^ i<=4294967296 ^ j:=by
 obtain ⟨d,rfl⟩:=Nat.le.dest h
 rw [Int.pow_add]
 have h1:=pow_pos32 d
 have h2:=pow_pos32 i
 have:=Int.mul_le_mul_of_nonneg_left (show (1:Int)<=4294967296 ^ d by omega) (show (0:Int)<=4294967296 ^ i by omega)
 omega
theorem val_ge:∀ {xs:List Int},Ok32 xs->∀ j:Nat,xs.getD j 0*4294967296 ^ j<=val xs
 | [],_,j=>by simp [val]
 | x::xs,h,0=>by
  have:=val_nonneg h.tail
  simp [val]; omega
 | x::xs,h,j+1=>by
  have ih:=val_ge h.tail j
  have hx:=h.head
  have:(x::xs).getD (j+1) 0=xs.getD j 0:=by simp
  simp only [val,this,Int.pow_succ]
  have e:xs.getD j 0*(4294967296 ^ j*4294967296)=4294967296*(xs.getD j 0*4294967296 ^ j):=by grind
  rw [e]; omega
theorem get_lt {xs:List Int} (h:Ok32 xs) {j:Nat} {b:Int} (hv:val xs < 4294967296 ^ j*b):xs.getD j 0 < b:=by
 have h1:=val_ge h j
 have h2:=pow_pos32 j
 by_cases hb:xs.getD j 0 < b
 ·exact hb
 ·exfalso
  have h3:4294967296 ^ j*b<=4294967296 ^ j*xs.getD j 0:=Int.mul_le_mul_of_nonneg_left (by omega) (by omega)
  have e:4294967296 ^ j*xs.getD j 0=xs.getD j 0*4294967296 ^ j:=Int.mul_comm _ _
  omega
/-- Without zeros at its end. -/
theorem lb_of_ge {xs:List Int} (h:Ok32 xs) (hv:xs=[]\/4294967296 ^ (xs.length - 1)<=val xs):xs=lb (val xs).toNat:=by
 have h1:=take_tlen h
 have h2:=tlen_le xs
 rcases hv with rfl | hv
 ·simpa [tlen] using h1
 ·by_cases ht:tlen xs=xs.length
  ·rw [ht,List.take_length] at h1; exact h1
  ·exfalso
   have h3:val xs < 4294967296 ^ tlen xs:=by
    have h4:val (xs.take (tlen xs))=val xs:=by
     rw [h1,val_lb]
     have:=val_nonneg h
     omega
    have h5:=val_lt (h.take (tlen xs))
    rw [h4,List.length_take,Nat.min_eq_left h2] at h5
    exact h5
   have h6:(4294967296:Int) ^ tlen xs<=4294967296 ^ (xs.length - 1):=pow_mono32 (by omega)
   omega
theorem or32 {a b:Int} (k:Nat) {c:Nat} (h0:0<=a) (h1:a < ((2 ^ k:Nat):Int)) (hb:b=((2 ^ k*c:Nat):Int)) (h2:a+b < 4294967296):std.ib .or .u32 a b=a+b:=by
 have hb0:0<=b:=by omega
 have e1:(BitVec.ofInt 32 a).toNat=a.toNat:=by rw [BitVec.toNat_ofInt]; omega
 have e2:(BitVec.ofInt 32 b).toNat=b.toNat:=by rw [BitVec.toNat_ofInt]; omega
 have hk:a.toNat < 2 ^ k:=by omega
 have hbn:b.toNat=2 ^ k*c:=by omega
 have e3:(BitVec.ofInt 32 a ||| BitVec.ofInt 32 b).toNat=a.toNat+b.toNat:=by
  rw [BitVec.toNat_or,e1,e2,hbn,Nat.or_comm,<-Nat.two_pow_add_eq_or_of_lt hk,Nat.add_comm]
 show IntKind.u32.wrap ((BitVec.ofInt 32 a ||| BitVec.ofInt 32 b).toNat:Int)=a+b
 rw [e3,wu32 (by omega) (by omega)]
 omega
theorem digit_at {l:List UInt8} {i:Nat} (h:i < l.length):dv l / 256 ^ i % 256=(l.getD (l.length - 1 - i) 0).toNat:=by
 have hk:l.length - 1 - i < l.length:=by omega
 have e:l=l.take (l.length - 1 - i)++(l[l.length - 1 - i]::l.drop (l.length - 1 - i+1)):=by
  rw [List.getElem_cons_drop]; exact (List.take_append_drop _ _).symm
 have hl:(l.drop (l.length - 1 - i+1)).length=i:=by rw [List.length_drop]; omega
 have hg:l.getD (l.length - 1 - i) 0=l[l.length - 1 - i]:=by rw [List.getD_eq_getElem?_getD,List.getElem?_eq_getElem hk]; rfl
 rw [hg]
 generalize l[l.length - 1 - i]=d at e
 generalize l.take (l.length - 1 - i)=a at e
 generalize l.drop (l.length - 1 - i+1)=b at e hl
 have hb:=dv_lt b
 rw [hl] at hb
 have hd:d.toNat < 256:=d.toNat_lt
 rw [e,dv_app,dv_cons,List.length_cons,hl,Nat.pow_succ]
 have e2:dv a*(256 ^ i*256)+(d.toNat*256 ^ i+dv b)=dv b+256 ^ i*(dv a*256+d.toNat):=by grind
 rw [e2,Nat.add_mul_div_left _ _ (Nat.pow_pos (by decide)),Nat.div_eq_of_lt hb]
 omega
theorem pow256 (i:Nat):(256:Nat) ^ i=4294967296 ^ (i / 4)*256 ^ (i % 4):=by
 have:(4294967296:Nat)=256 ^ 4:=by decide
 rw [this,<-Nat.pow_mul,<-Nat.pow_add]
 congr 1; omega
/-- One digit more. -/
theorem load_step {out:List Int} {i n d:Nat} (ho:Ok32 out) (hl:i / 4 < out.length) (hv:val out=((n % 256 ^ i:Nat):Int)) (hd:d=n / 256 ^ i % 256) :
  std.ib .or .u32 (out.getD (i / 4) 0) ((d*256 ^ (i % 4):Nat):Int)=out.getD (i / 4) 0+((d*256 ^ (i % 4):Nat):Int) /\
  0<=out.getD (i / 4) 0+((d*256 ^ (i % 4):Nat):Int)/\out.getD (i / 4) 0+((d*256 ^ (i % 4):Nat):Int) < 4294967296 /\
  val (out.set (i / 4) (out.getD (i / 4) 0+((d*256 ^ (i % 4):Nat):Int)))=((n % 256 ^ (i+1):Nat):Int):=by
 have hdl:d < 256:=by rw [hd]; exact Nat.mod_lt _ (by decide)
 have hlt:n % 256 ^ i < 4294967296 ^ (i / 4)*256 ^ (i % 4):=by rw [<-pow256]; exact Nat.mod_lt _ (Nat.pow_pos (by decide))
 have h0:=ho.get (i / 4)
 have hold:out.getD (i / 4) 0 < ((256 ^ (i % 4):Nat):Int):=by
  refine get_lt ho (j:=i / 4) ?_
  rw [hv]
  have:((n % 256 ^ i:Nat):Int) < ((4294967296 ^ (i / 4)*256 ^ (i % 4):Nat):Int):=by exact_mod_cast hlt
  rw [Int.natCast_mul,Int.natCast_pow] at this
  exact this
 have hr:i % 4 < 4:=Nat.mod_lt _ (by decide)
 have hsum:out.getD (i / 4) 0+((d*256 ^ (i % 4):Nat):Int) < 4294967296:=by
  have h1:d*256 ^ (i % 4)<=255*256 ^ (i % 4):=Nat.mul_le_mul_right _ (by omega)
  have h2:256 ^ (i % 4)<=16777216:=by
   have:(i % 4)<=3:=by omega
   exact Nat.le_trans (Nat.pow_le_pow_right (by decide) this) (by decide)
  omega
 have hpow:(256:Nat) ^ (i % 4)=2 ^ (8*(i % 4)):=by rw [Nat.pow_mul]
 refine ⟨or32 (8*(i % 4)) (c:=d) h0.1 (by rw [<-hpow]; exact hold) (by rw [<-hpow,Nat.mul_comm]) hsum,by omega,hsum,?_⟩
 rw [val_set _ _ _ hl,hv]
 have e1:n % 256 ^ (i+1)=n % 256 ^ i+256 ^ i*d:=by rw [hd,Nat.pow_succ,Nat.mod_mul]
 rw [e1,pow256 i]
 rw [Int.natCast_add,Int.natCast_mul,Int.natCast_mul,Int.natCast_mul,Int.natCast_pow]
 grind
theorem mgl_ge {n:Nat} (h:n ≠ 0):256 ^ ((mgl n).length - 1)<=n:=by
 cases e:mgl n with
 | nil=>rw [mgl_pos h] at e; simp at e
 | cons d l=>
  have h1:=mgl_head n d l e
  have h2:d.toNat ≠ 0:=fun e=>h1 (UInt8.toNat_inj.1 (by simpa using e))
  have h3:=dv_mgl n
  rw [e,dv_cons] at h3
  have h4:1*256 ^ l.length<=d.toNat*256 ^ l.length:=Nat.mul_le_mul_right _ (by omega)
  simp only [List.length_cons,Nat.add_sub_cancel]
  omega
theorem mgl_le {s:List UInt8} {n:Nat} (h:n=dv s):(mgl n).length<=s.length:=by
 by_cases h0:n=0
 ·rw [h0,mgl_zero]; exact Nat.zero_le _
 ·have h1:=mgl_ge h0
  have h2:=dv_lt s
  rw [<-h] at h2
  have h3:256 ^ ((mgl n).length - 1) < 256 ^ s.length:=Nat.lt_of_le_of_lt h1 h2
  have h4:=(Nat.pow_lt_pow_iff_right (by decide)).1 h3
  omega
theorem load_con (s:ByteArray) (hb:s.size<=1099511627776):Con Tryz.prog 210 [.v (.string s)] (.own 195 cU (lb (bv s))):=by
 refine Con.of ttOk mixed Tryz.func210 { ord:=[(7,[0,1,2,3,4,5,6,7,8,9,10,11,12,13,14,15])] } .nil 0 (by kernel_rfl) (fun P' E hP hE=>?_)
 obtain ⟨t,ht⟩:∃ t,t=mg (bv s):=⟨_,rfl⟩
 obtain ⟨r,hr⟩:∃ r,r=lb (bv s):=⟨_,rfl⟩
 have hc:=strip_con s hb
 rw [<-ht] at hc
 rw [<-hr]
 have hts:t.size<=1099511627776:=by
  rw [ht,dg_size,dg_mg]
  exact Nat.le_trans (mgl_le (s:=dg s) rfl) (by rw [<-dg_size]; exact hb)
 obtain ⟨L,hL⟩:∃ L,L=(t.size+3) / 4:=⟨_,rfl⟩
 obtain ⟨z,hz⟩:∃ z,z=List.replicate L (0:Int):=⟨_,rfl⟩
 have hLe:IntKind.i64.wrap ((IntKind.i64.wrap (IntKind.i64.wrap ((t.size:Int)+4) - 1)).tdiv 4)=(L:Int):=by
  rw [w64 (n:=(t.size:Int)+4) (by omega) (by omega),w64 (n:=(t.size:Int)+4 - 1) (by omega) (by omega)]
  have e:(t.size:Int)+4 - 1=((t.size+3:Nat):Int):=by omega
  rw [e,td4,w64 (by omega) (by omega)]; omega
 cbv
 refine CallTo.con hP hE hc (by cbv<;>simp) ?_
 cbv
 refine ⟨by subst hE; simp,?_⟩
 cbv
 refine ⟨?_,?_⟩
 ·subst hE; simp [hLe]; omega
 cbv
 refine LoopTo.by (ι:=Nat × List Int) (fun x=>[(16,.v (.int .i64 x.1))]) (fun x=>[(1,.row true 195 cU x.2)]) (fun x=>x.1<=t.size/\x.2.length=L/\Ok32 x.2/\val x.2=((bv s % 256 ^ x.1:Nat):Int)) (fun x=>t.size - x.1) (0,z) [] ⟨Nat.zero_le _,by rw [hz]; simp,by rw [hz]; exact Ok32.rep _,by rw [hz,val_rep]; simp [Nat.mod_one]⟩ ?_ ?_
 ·cbv
  subst hE
  simp [hLe,hz]
 ·rintro ⟨i,out⟩ hi
  have hi1:i<=t.size:=hi.1
  have hi2:out.length=L:=hi.2.1
  have hi3:Ok32 out:=hi.2.2.1
  have hi4:val out=((bv s % 256 ^ i:Nat):Int):=hi.2.2.2
  clear hi
  have hiq:IntKind.i64.wrap ((i:Int) / 4)=(i:Int) / 4:=w64 (by omega) (by omega)
  have hiw:IntKind.i64.wrap (8*((i:Int) % 4))=8*((i:Int) % 4):=w64 (by omega) (by omega)
  have hi1w:IntKind.i64.wrap ((i:Int)+1)=(i:Int)+1:=w64 (by omega) (by omega)
  cbv
  refine ⟨fun h1=>?_,fun h1=>?_⟩
  ·have hlt:i < t.size:=by subst hE; simpa using h1
   have hk:IntKind.i64.wrap (IntKind.i64.wrap ((t.size:Int) - 1) - i)=((t.size - 1 - i:Nat):Int):=by
    rw [w64 (n:=(t.size:Int) - 1) (by omega) (by omega),w64 (by omega) (by omega)]; omega
   cbv
   refine ⟨by subst hE; simp,?_⟩
   cbv
   refine ⟨?_,?_⟩
   ·subst hE; simp [hLe,hiq]; omega
   cbv
   refine ⟨?_,?_⟩
   ·subst hE; simp [hk]; omega
   cbv
   refine ⟨by subst hE; simp,?_⟩
   cbv
   refine ⟨?_,?_⟩
   ·subst hE; simp [tm4,hiw]; omega
   cbv
   refine ⟨?_,?_⟩
   ·subst hE; simp [hLe,hiq]; omega
   cbv
   obtain ⟨d,hd⟩:∃ d,d=((dg t).getD (t.size - 1 - i) 0).toNat:=⟨_,rfl⟩
   obtain ⟨out',ho'⟩:∃ o,o=out.set (i / 4) (out.getD (i / 4) 0+((d*256 ^ (i % 4):Nat):Int)):=⟨_,rfl⟩
   have hbt:bv s=dv (dg t):=by rw [ht]; exact (bv_mg _).symm
   have hq4:i / 4 < out.length:=by omega
   obtain ⟨s1,s2,s3,s4⟩:=load_step (d:=d) hi3 hq4 hi4 (by rw [hbt,digit_at (by rw [<-dg_size]; exact hlt),<-dg_size]; exact hd)
   rw [<-ho'] at s4
   refine ⟨(i+1,out'),[],⟨hlt,by rw [ho']; simp [hi2],by rw [ho']; exact hi3.set s2 s3 _,s4⟩,by show t.size - (i+1) < t.size - i; omega,?_⟩
   have hrow:std.set Int out (std.ib .quo .i64 i 4) (std.ib .or .u32 (std.get Int out (std.ib .quo .i64 i 4) 0) (std.ib .shl .u32 (std.cv .u32 (std.sa t (std.ib .sub .i64 (std.ib .sub .i64 (std.sz t) 1) i))) (std.ib .mul .i64 8 (std.ib .rem .i64 i 4))))=out':=by
    have q1:std.ib .quo .i64 i 4=((i / 4:Nat):Int):=by rw [s_quo,td4]; exact hiq
    have q2:std.ib .mul .i64 8 (std.ib .rem .i64 i 4)=((8*(i % 4):Nat):Int):=by rw [s_mul,s_rem,tm4]; exact hiw
    have q3:std.sa t (std.ib .sub .i64 (std.ib .sub .i64 (std.sz t) 1) i)=(d:Int):=by
     rw [s_sub,s_sub,s_sz,hk,s_sa,Int.toNat_natCast,dg_get,hd]
    have hdl:d < 256:=by rw [hd]; exact UInt8.toNat_lt _
    have q4:std.ib .shl .u32 (std.cv .u32 (d:Int)) ((8*(i % 4):Nat):Int)=((d*256 ^ (i % 4):Nat):Int):=by
     have hr4:i % 4 < 4:=Nat.mod_lt _ (by decide)
     have hm:min (8*(i % 4)) IntKind.u32.bits=8*(i % 4):=by
      have:IntKind.u32.bits=32:=rfl
      omega
     have hp:(2:Int) ^ (8*(i % 4))=((256 ^ (i % 4):Nat):Int):=by rw [Int.pow_mul,Int.natCast_pow]; rfl
     rw [s_shl,s_cv,Int.toNat_natCast,hm,wu32 (n:=(d:Int)) (by omega) (by omega),hp,wu32]
     ·rw [Int.natCast_mul]
     ·rw [<-Int.natCast_mul]; omega
     ·have h3:=(hi3.get (i / 4)).1
      rw [<-Int.natCast_mul]; omega
    rw [q1,q2,q3,q4,s_get,Int.toNat_natCast,s1,s_set,Int.toNat_natCast,ho']
   cbv
   subst hE
   and_intros
   all_goals first
    | exact Sm.of hrow
    | (simp [hi1w]; done)
  ·cbv
   refine Sm.of ?_
   have hit:i=t.size:=by
    have:¬ i < t.size:=by subst hE; simpa using h1
    omega
   subst hE
   have hLE:std.ib .quo .i64 (std.ib .sub .i64 (std.ib .add .i64 (std.sz t) 4) 1) 4=(L:Int):=hLe
   show std.tk Int out (std.ib .quo .i64 (std.ib .sub .i64 (std.ib .add .i64 (std.sz t) 4) 1) 4)=r
   rw [hLE,s_tk,Int.toNat_natCast,<-hi2,List.take_length,hr]
   have hlt:bv s < 256 ^ t.size:=by
    have:=dv_lt (dg t)
    rw [<-dg_size] at this
    have e:dv (dg t)=bv s:=by rw [ht]; exact bv_mg _
    rw [e] at this; exact this
   rw [hit,Nat.mod_eq_of_lt hlt] at hi4
   have:=lb_of_ge hi3 ?_
   ·rw [hi4,Int.toNat_natCast] at this; exact this
   ·by_cases h0:out=[]
    ·exact .inl h0
    ·refine .inr ?_
     have hpos:t.size ≠ 0:=by
      intro h
      apply h0
      apply List.eq_nil_of_length_eq_zero
      omega
     have hge:=mgl_ge (n:=bv s) (by rw [ht,dg_size,dg_mg] at hpos; intro h; rw [h,mgl_zero] at hpos; exact hpos rfl)
     rw [<-dg_mg,<-ht,<-dg_size] at hge
     rw [hi4]
     have h4:(4294967296:Nat) ^ (out.length - 1)<=256 ^ (t.size - 1):=by
      have:(4294967296:Nat)=256 ^ 4:=by decide
      rw [this,<-Nat.pow_mul]
      exact Nat.pow_le_pow_right (by decide) (by omega)
     have h5:(((4294967296:Nat) ^ (out.length - 1):Nat):Int)<=((bv s:Nat):Int):=by exact_mod_cast Nat.le_trans h4 hge
     rw [Int.natCast_pow] at h5
     exact h5
def by8 (bs:List Int):List UInt8:=bs.map fun n=>UInt8.ofNat n.toNat
theorem by8_app (a b:List Int):by8 (a++b)=by8 a++by8 b:=by simp [by8]
theorem bytes4 {x:Int} (h0:0<=x) (h1:x < 4294967296):dv (by8 [x / 16777216 % 256,x / 65536 % 256,x / 256 % 256,x % 256])=x.toNat:=by
 have e:∀ y:Int,0<=y->y < 256->(UInt8.ofNat y.toNat).toNat=y.toNat:=by
  intro y h0 h1
  rw [UInt8.toNat_ofNat']
  omega
 simp only [by8,dv,List.map_cons,List.map_nil,List.foldl_cons,List.foldl_nil]
 rw [e _ (by omega) (by omega),e _ (by omega) (by omega),e _ (by omega) (by omega),e _ (by omega) (by omega)]
 omega
theorem shr32 (x:Int) (k:Nat) (hk:k<=32):std.cv .u8 (std.ib .shr .u32 x (k:Int))=x / 2 ^ k % 256:=by
 rw [s_cv,s_shr,IntKind.wrap_u8,Int.toNat_natCast]
 have:min k IntKind.u32.bits=k:=by have:IntKind.u32.bits=32:=rfl; omega
 rw [this,Int.fdiv_eq_ediv_of_nonneg _ (Int.pow_nonneg (by decide))]
theorem flat8:∀ bs:List Int,((bs.flatMap fun x=>[Value.int .u8 x]).map byteOf)=by8 bs
 | []=>rfl
 | b::bs=>by
  have ih:=flat8 bs
  simp only [by8,List.flatMap_cons,List.map_append,List.map_cons,List.map_nil,ih] at ih ⊢
  rfl
theorem val_drop {xs:List Int} {i:Nat} (h:i < xs.length):val (xs.drop i)=xs.getD i 0+4294967296*val (xs.drop (i+1)):=by
 rw [List.drop_eq_getElem_cons h,val,List.getD_eq_getElem?_getD,List.getElem?_eq_getElem h]; rfl
theorem store_con (xs:List Int) (hx:Ok32 xs) (hb:xs.length<=137438953472):Con Tryz.prog 279 [.ro cU xs] (.v (.string (mg (val xs).toNat))):=by
 refine Con.of ttOk mixed Tryz.func279 { ord:=[(5,List.range 27)] } .nil 0 (by kernel_rfl) (fun P' E hP hE=>?_)
 obtain ⟨m,hm⟩:∃ m,m=mg (val xs).toNat:=⟨_,rfl⟩
 obtain ⟨n,hn⟩:∃ n:Int,n=(xs.length:Int):=⟨_,rfl⟩
 obtain ⟨i0,hi0⟩:∃ i:Int,i=n - 1:=⟨_,rfl⟩
 obtain ⟨l0,hl0⟩:∃ l:Int,l=0:=⟨_,rfl⟩
 obtain ⟨b0,hb0⟩:∃ b:List Int,b=[]:=⟨_,rfl⟩
 rw [<-hm]
 cbv
 refine LoopTo.nil 3 5 (cInt .u8) (cInt_ok _) rfl ?_
 refine LoopTo.by (ι:=Int × Int × List Int) (fun x=>[(4,.v (.int .i64 x.1)),(3,.s 1 x.2.1)]) (fun x=>[(1,.row true 5 (cInt .u8) x.2.2)]) (fun x => -1<=x.1/\x.1 < n/\x.2.1=4*(n - 1 - x.1)/\x.2.2.length=x.2.1.toNat/\dv (by8 x.2.2)=(val (xs.drop (x.1+1).toNat)).toNat) (fun x=>(x.1+1).toNat) (i0,l0,b0) [] ?_ ?_ ?_
 ·replace hn:n=(xs.length:Int):=hn
  refine ⟨by show -1<=i0; omega,by show i0 < n; omega,by show l0=4*(n - 1 - i0); omega,by show b0.length=l0.toNat; simp [hb0,hl0],?_⟩
  show dv (by8 b0)=(val (xs.drop (i0+1).toNat)).toNat
  rw [hb0,List.drop_eq_nil_of_le (by omega)]
  rfl
 ·replace hn:n=(xs.length:Int):=hn
  have hw:std.ib .sub .i64 (std.len Int xs) 1=i0:=by
   rw [s_sub,s_len,<-hn,w64 (by omega) (by omega)]; exact hi0.symm
  cbv
  subst hE
  and_intros
  all_goals first
   | exact Sm.of hb0.symm
   | exact vi hw
   | (simp [hl0]; done)
 ·rintro ⟨i,l,bs⟩ hi
  have h1 : -1<=i:=hi.1
  have h2:i < n:=hi.2.1
  have h3:l=4*(n - 1 - i):=hi.2.2.1
  have h4:bs.length=l.toNat:=hi.2.2.2.1
  have h5:dv (by8 bs)=(val (xs.drop (i+1).toNat)).toNat:=hi.2.2.2.2
  clear hi
  replace hn:n=(xs.length:Int):=hn
  have hin:0<=i->std.inb i (std.len Int xs):=fun hi0=>by rw [s_inb,s_len,<-hn]; exact ⟨hi0,h2⟩
  cbv
  refine ⟨fun h6=>?_,fun h6=>?_⟩
  ·have hi0:0<=i:=by subst hE; simpa using h6
   have hin:=hin hi0
   cbv
   refine ⟨by subst hE; exact hin,?_⟩
   cbv
   refine ⟨by subst hE; simp,?_⟩
   cbv
   refine ⟨by subst hE; exact hin,?_⟩
   cbv
   refine ⟨by subst hE; simp,?_⟩
   cbv
   refine ⟨by subst hE; exact hin,?_⟩
   cbv
   refine ⟨by subst hE; simp,?_⟩
   cbv
   refine ⟨by subst hE; exact hin,?_⟩
   cbv
   replace hn:n=(xs.length:Int):=hn
   have hfit:std.fits (l+4) 1:=by rw [s_fits]; omega
   refine ⟨by subst hE; exact hfit,?_⟩
   cbv
   replace hn:n=(xs.length:Int):=hn
   obtain ⟨x,hx'⟩:∃ x,x=xs.getD i.toNat 0:=⟨_,rfl⟩
   obtain ⟨bs',hbs⟩:∃ b,b=bs++[x / 16777216 % 256,x / 65536 % 256,x / 256 % 256,x % 256]:=⟨_,rfl⟩
   obtain ⟨i',hi'⟩:∃ j,j=i - 1:=⟨_,rfl⟩
   obtain ⟨l',hl'⟩:∃ j,j=l+4:=⟨_,rfl⟩
   have hxx:=hx.get i.toNat
   rw [<-hx'] at hxx
   refine ⟨(i',l',bs'),[0,3],⟨by show -1<=i'; omega,by show i' < n; omega,by show l'=4*(n - 1 - i'); omega,by show bs'.length=l'.toNat; rw [hbs,List.length_append]; simp; omega,?_⟩,by show (i'+1).toNat < (i+1).toNat; omega,?_⟩
   ·show dv (by8 bs')=(val (xs.drop (i'+1).toNat)).toNat
    have e1:(i'+1).toNat=i.toNat:=by omega
    have e2:(i+1).toNat=i.toNat+1:=by omega
    rw [e1,val_drop (by omega),<-hx',hbs,by8_app,dv_app,h5,bytes4 hxx.1 hxx.2,e2]
    have hv:=val_nonneg (hx.drop (i.toNat+1))
    have:(by8 [x / 16777216 % 256,x / 65536 % 256,x / 256 % 256,x % 256]).length=4:=rfl
    rw [this]
    omega
   ·have g1:std.get Int xs i 0=x:=hx'.symm
    have hrow:std.app Int (std.tk Int bs l) [std.cv .u8 (std.ib .shr .u32 (std.get Int xs i 0) 24),std.cv .u8 (std.ib .shr .u32 (std.get Int xs i 0) 16),std.cv .u8 (std.ib .shr .u32 (std.get Int xs i 0) 8),std.cv .u8 (std.get Int xs i 0)]=bs':=by
     have q1:=shr32 x 24 (by omega)
     have q2:=shr32 x 16 (by omega)
     have q3:=shr32 x 8 (by omega)
     rw [g1,s_app,s_tk,List.take_of_length_le (by omega),hbs]
     congr 1
     refine List.cons_eq_cons.2 ⟨q1,List.cons_eq_cons.2 ⟨q2,List.cons_eq_cons.2 ⟨q3,List.cons_eq_cons.2 ⟨?_,rfl⟩⟩⟩⟩
     rw [s_cv,IntKind.wrap_u8]
    have hlr:∀ a:List Int,a.length=4->std.ad l (std.len Int a)=l':=by
     intro a ha
     rw [s_ad,s_len,ha,hl']; rfl
    have hir:std.ib .sub .i64 i 1=i':=by rw [s_sub,w64 (by omega) (by omega),hi']
    cbv
    subst hE
    and_intros
    all_goals first
     | exact Sm.of hrow
     | exact vi hir
     | exact congrArg (AV.s 3) (hlr _ rfl)
     | (simp; done)
  ·obtain ⟨t,ht⟩:∃ t,t=(⟨(by8 bs).toArray⟩:ByteArray):=⟨_,rfl⟩
   replace hn:n=(xs.length:Int):=hn
   have hi0:i = -1:=by
    have:¬ 0<=i:=by subst hE; simpa using h6
    omega
   have ht2:dg t=by8 bs:=by rw [ht]; simp [dg]
   have hc:=strip_con t (by rw [dg_size,ht2]; simp only [by8,List.length_map]; omega)
   have hbv:bv t=(val xs).toNat:=by
    show dv (dg t)=_
    rw [ht2,h5,hi0]; rfl
   rw [hbv,<-hm] at hc
   have hstr:std.b2s Int (fun x=>[.int .u8 x]) (std.tk Int bs l)=t:=by
    rw [s_tk,List.take_of_length_le (by omega)]
    refine dg_ext ?_
    rw [ht2]
    show ((bs.flatMap fun x=>[Value.int .u8 x]).map byteOf).toArray.toList=by8 bs
    exact flat8 bs
   cbv
   refine ⟨fun y=>⟨y,rfl⟩,?_⟩
   cbv
   refine CallTo.con hP hE hc ?_ ?_
   ·subst hE
    exact ⟨congrArg Value.string hstr,trivial⟩
   ·cbv
theorem lb_ge (n:Nat):n ≠ 0->(4294967296:Int) ^ ((lb n).length - 1)<=n:=by
 induction n using Nat.strongRecOn with
 | ind n ih=>
  intro h
  rw [lb_pos h,List.length_cons,Nat.add_sub_cancel]
  by_cases h1:n / 4294967296=0
  ·rw [h1,lb_zero]; simp; omega
  ·have ih:=ih (n / 4294967296) (by omega) h1
   have h2:(lb (n / 4294967296)).length=(lb (n / 4294967296)).length - 1+1:=by
    rw [lb_pos h1]; simp
   rw [h2,Int.pow_succ]
   generalize (4294967296:Int) ^ ((lb (n / 4294967296)).length - 1)=p at ih
   omega
theorem lb_lt (n:Nat):(n:Int) < 4294967296 ^ (lb n).length:=by
 have:=val_lt (lb_ok n)
 rw [val_lb] at this; exact this
theorem cmp_len {a b:Nat} (h:(lb a).length < (lb b).length):a < b:=by
 have h1:=lb_lt a
 have hb:b ≠ 0:=by rintro rfl; rw [lb_zero] at h; simp at h
 have h2:=lb_ge b hb
 have h3:(4294967296:Int) ^ (lb a).length<=4294967296 ^ ((lb b).length - 1):=pow_mono32 (by omega)
 omega
theorem val_split {xs:List Int} {i:Nat} (h:i<=xs.length):val xs=val (xs.take i)+4294967296 ^ i*val (xs.drop i):=by
 have:=val_append (xs.take i) (xs.drop i)
 rw [List.take_append_drop,List.length_take,Nat.min_eq_left h] at this
 exact this
theorem cmp_at {xs ys:List Int} (hx:Ok32 xs) (hy:Ok32 ys) {i:Nat} (hi:i < xs.length) (hl:xs.length=ys.length) (hd:xs.drop (i+1)=ys.drop (i+1)) (hlt:xs.getD i 0 < ys.getD i 0):val xs < val ys:=by
 have e1:val (xs.drop i)=xs.getD i 0+4294967296*val (xs.drop (i+1)):=by
  rw [List.drop_eq_getElem_cons hi,val,List.getD_eq_getElem?_getD,List.getElem?_eq_getElem hi]; rfl
 have e2:val (ys.drop i)=ys.getD i 0+4294967296*val (ys.drop (i+1)):=by
  have hi':i < ys.length:=by omega
  rw [List.drop_eq_getElem_cons hi',val,List.getD_eq_getElem?_getD,List.getElem?_eq_getElem hi']; rfl
 rw [val_split (xs:=xs) (i:=i) (by omega),val_split (xs:=ys) (i:=i) (by omega),e1,e2,hd]
 have h1:=val_lt (hx.take i)
 have h2:=val_nonneg (hy.take i)
 rw [List.length_take,Nat.min_eq_left (by omega)] at h1
 have hp:=pow_pos32 i
 generalize (4294967296:Int) ^ i=p at *
 generalize val (ys.drop (i+1))=t at *
 generalize ys.getD i 0=y at *
 generalize xs.getD i 0=x at *
 have h3:p*(x+1)<=p*y:=Int.mul_le_mul_of_nonneg_left (by omega) (by omega)
 have e3:p*(x+4294967296*t)=p*(x+1) - p+p*(4294967296*t):=by grind
 have e4:p*(y+4294967296*t)=p*y+p*(4294967296*t):=by grind
 omega
/-- The order of two numbers. -/
def cmpI (a b:Int):Int:=if a < b then -1 else if a > b then 1 else 0
theorem compare_core (xs ys:List Int) (r:Int) (ox:Ok32 xs) (oy:Ok32 ys) (ha:xs.length<=137438953472) (hb:ys.length<=137438953472) (hlen1:xs.length < ys.length->r = -1) (hlen2:ys.length < xs.length->r=1) (r0:xs=ys->r=0) (r1:val xs < val ys->r = -1) (r2:val ys < val xs->r=1) :
  Con Tryz.prog 218 [.ro cU xs,.ro cU ys] (.v (.int .i64 r)):=by
 refine Con.of ttOk mixed Tryz.func218 { ord:=[(8,List.range 10),(10,List.range 10)] } .nil 0 (by kernel_rfl) (fun P' E hP hE=>?_)
 obtain ⟨i0,hi0⟩:∃ i:Int,i=(xs.length:Int) - 1:=⟨_,rfl⟩
 have hsub:std.ib .sub .i64 (std.len Int xs) 1=i0:=by rw [s_sub,s_len,w64 (by omega) (by omega)]; exact hi0.symm
 have hi00:(i0+1).toNat=xs.length:=by omega
 have hi01 : -1<=i0:=by omega
 clear hi0
 cbv
 refine ⟨fun h1=>?_,fun h1=>?_⟩
 ·cbv
  refine ⟨fun h2=>?_,fun h2=>?_⟩
  ·have h:xs.length < ys.length:=by
    subst hE
    have h:std.ic .lss (std.len Int xs) (std.len Int ys)=true:=h2
    simpa using h
   cbv
   rw [hlen1 h]
  ·have h:ys.length < xs.length:=by
    subst hE
    have h:std.ic .lss (std.len Int xs) (std.len Int ys)=false:=h2
    have h':std.ic .neq (std.len Int xs) (std.len Int ys)=true:=h1
    simp at h h'
    omega
   cbv
   rw [hlen2 h]
 ·have hl:xs.length=ys.length:=by
   subst hE
   have h':std.ic .neq (std.len Int xs) (std.len Int ys)=false:=h1
   simp at h'
   omega
  cbv
  refine LoopTo.by (ι:=Int) (fun i=>[(5,.v (.int .i64 i))]) (fun i=>[]) (fun i => -1<=i/\(i+1).toNat<=xs.length/\xs.drop (i+1).toNat=ys.drop (i+1).toNat) (fun i=>(i+1).toNat) i0 [] ⟨hi01,by omega,by rw [List.drop_eq_nil_of_le (by omega),List.drop_eq_nil_of_le (by omega)]⟩ ?_ ?_
  ·cbv
   subst hE
   and_intros
   all_goals first
    | exact vi hsub
    | (simp; done)
  ·intro i hi
   have h2 : -1<=i:=hi.1
   have h3:(i+1).toNat<=xs.length:=hi.2.1
   have h4:xs.drop (i+1).toNat=ys.drop (i+1).toNat:=hi.2.2
   clear hi
   cbv
   refine ⟨fun h5=>?_,fun h5=>?_⟩
   ·have hi0:0<=i:=by subst hE; simpa using h5
    have hix:std.inb i (std.len Int xs):=by rw [s_inb,s_len]; omega
    have hiy:std.inb i (std.len Int ys):=by rw [s_inb,s_len]; omega
    have e1:(i+1).toNat=i.toNat+1:=by omega
    have h4:xs.drop (i.toNat+1)=ys.drop (i.toNat+1):=by rw [<-e1]; exact h4
    have hil:i.toNat < xs.length:=by omega
    have hsj:∀ j,j=i - 1->std.ib .sub .i64 i 1=j:=fun j hj=>by rw [s_sub,w64 (by omega) (by omega),hj]
    have q1:xs.getD i.toNat 0 < ys.getD i.toNat 0->r = -1:=fun h=>r1 (cmp_at ox oy hil hl h4 h)
    have q2:ys.getD i.toNat 0 < xs.getD i.toNat 0->r=1:=fun h=>r2 (cmp_at oy ox (by omega) hl.symm h4.symm h)
    have q3:∀ j,j=i - 1->¬ xs.getD i.toNat 0 < ys.getD i.toNat 0->¬ ys.getD i.toNat 0 < xs.getD i.toNat 0 -> -1<=j/\(j+1).toNat<=xs.length/\xs.drop (j+1).toNat=ys.drop (j+1).toNat:=by
     intro j hj n1 n2
     have e2:(j+1).toNat=i.toNat:=by omega
     refine ⟨by omega,by omega,?_⟩
     rw [e2,List.drop_eq_getElem_cons hil,List.drop_eq_getElem_cons (show i.toNat < ys.length by omega),h4]
     have g1:xs.getD i.toNat 0=xs[i.toNat]:=by rw [List.getD_eq_getElem?_getD,List.getElem?_eq_getElem hil]; rfl
     have g2:ys.getD i.toNat 0=ys[i.toNat]'(by omega):=by rw [List.getD_eq_getElem?_getD,List.getElem?_eq_getElem (show i.toNat < ys.length by omega)]; rfl
     have g3:xs.getD i.toNat 0=ys.getD i.toNat 0:=by omega
     rw [<-g1,<-g2,g3]
    have hdec:∀ j,j=i - 1->(j+1).toNat < (i+1).toNat:=fun j hj=>by omega
    cbv
    refine ⟨by subst hE; exact hix,?_⟩
    cbv
    refine ⟨by subst hE; exact hiy,?_⟩
    cbv
    refine ⟨fun h6=>?_,fun h6=>?_⟩
    ·have h:xs.getD i.toNat 0 < ys.getD i.toNat 0:=by subst hE; exact of_decide_eq_true h6
     cbv
     rw [q1 h]
    ·have n1:¬ xs.getD i.toNat 0 < ys.getD i.toNat 0:=by subst hE; exact of_decide_eq_false h6
     cbv
     refine ⟨by subst hE; exact hix,?_⟩
     cbv
     refine ⟨by subst hE; exact hiy,?_⟩
     cbv
     refine ⟨fun h7=>?_,fun h7=>?_⟩
     ·have h:ys.getD i.toNat 0 < xs.getD i.toNat 0:=by subst hE; exact of_decide_eq_true h7
      cbv
      rw [q2 h]
     ·have n2:¬ ys.getD i.toNat 0 < xs.getD i.toNat 0:=by subst hE; exact of_decide_eq_false h7
      cbv
      obtain ⟨j,hj⟩:∃ j,j=i - 1:=⟨_,rfl⟩
      have hsj:=hsj j hj
      refine ⟨j,[],q3 j hj n1 n2,hdec j hj,?_⟩
      cbv
      subst hE
      and_intros
      all_goals first
       | exact vi hsj
       | (simp; done)
   ·have hi0:i = -1:=by
     have:¬ 0<=i:=by subst hE; simpa using h5
     omega
    have h:xs=ys:=by rw [hi0] at h4; exact h4
    cbv
    rw [r0 h]
theorem compare_con (a b:Nat) (ha:(lb a).length<=137438953472) (hb:(lb b).length<=137438953472):Con Tryz.prog 218 [.ro cU (lb a),.ro cU (lb b)] (.v (.int .i64 (cmpI a b))):=by
 have hva:=val_lb a
 have hvb:=val_lb b
 refine compare_core _ _ _ (lb_ok a) (lb_ok b) ha hb (fun h=>?_) (fun h=>?_) (fun h=>?_) (fun h=>?_) (fun h=>?_)
 ·have:=cmp_len h
  rw [cmpI,if_pos (by omega)]
 ·have:=cmp_len h
  rw [cmpI,if_neg (by omega),if_pos (by omega)]
 ·rw [h] at hva
  rw [cmpI,if_neg (by omega),if_neg (by omega)]
 ·rw [cmpI,if_pos (by omega)]
 ·rw [cmpI,if_neg (by omega),if_pos (by omega)]
theorem val_snoc (xs:List Int) (x:Int):val (xs++[x])=val xs+4294967296 ^ xs.length*x:=by
 rw [val_append]; simp [val]
theorem take_snoc {xs:List Int} {i:Nat} (h:i < xs.length):xs.take (i+1)=xs.take i++[xs.getD i 0]:=by
 rw [List.take_succ_eq_append_getElem h,List.getD_eq_getElem?_getD,List.getElem?_eq_getElem h]; rfl
theorem val_take_succ {xs:List Int} {i:Nat}:val (xs.take (i+1))=val (xs.take i)+4294967296 ^ i*xs.getD i 0:=by
 by_cases h:i < xs.length
 ·rw [take_snoc h,val_snoc,List.length_take,Nat.min_eq_left (by omega)]
 ·rw [List.take_of_length_le (by omega),List.take_of_length_le (by omega),List.getD_eq_getElem?_getD,List.getElem?_eq_none (by omega)]
  simp
/-- What the rounds of a sum keep. -/
structure PInv (X Y:List Int) (i c l:Int) (o:List Int):Prop where
 i0:0<=i
 i1:i<=X.length
 l:l=i
 len:o.length=i.toNat
 ok:Ok32 o
 c0:0<=c
 c1:c<=1
 v:val o+4294967296 ^ i.toNat*c=val (X.take i.toNat)+val (Y.take i.toNat)
theorem PInv.zero {X Y:List Int} {i:Int} {b:List Int} (hi:i=0) (hb:b=[]):PInv X Y i i i b:=by
 subst hi; subst hb
 exact ⟨by omega,by omega,rfl,rfl,.nil,by omega,by omega,by simp [val]⟩
theorem PInv.step {X Y:List Int} (hX:Ok32 X) (hY:Ok32 Y) {i c l s:Int} {o:List Int} (h:PInv X Y i c l o) (hi:i < X.length) (hs:s=c+X.getD i.toNat 0+Y.getD i.toNat 0) :
  0<=s/\s < 18446744073709551616/\PInv X Y (i+1) (s / 4294967296) (l+1) (o++[s % 4294967296]):=by
 have hx:=hX.get i.toNat
 have hy:=hY.get i.toNat
 have hc0:=h.c0
 have hc1:=h.c1
 have hi0:=h.i0
 have e:(i+1).toNat=i.toNat+1:=by omega
 refine ⟨by omega,by omega,⟨by omega,by omega,by rw [h.l],by rw [List.length_append,h.len,e]; rfl,h.ok.append (.cons (by omega) (by omega) .nil),by omega,by omega,?_⟩⟩
 have hv:=h.v
 rw [val_snoc,h.len,e,val_take_succ,val_take_succ,Int.pow_succ]
 have hs2:s=s % 4294967296+4294967296*(s / 4294967296):=by omega
 generalize s / 4294967296=q at *
 generalize s % 4294967296=m at *
 generalize (4294967296:Int) ^ i.toNat=p at *
 generalize X.getD i.toNat 0=x at *
 generalize Y.getD i.toNat 0=y at *
 have:p*(m+4294967296*q)=p*(c+x+y):=by rw [<-hs2,hs]
 grind
theorem PInv.last {X Y:List Int} (hX:Ok32 X) (hY:Ok32 Y) {i c l:Int} {o:List Int} (h:PInv X Y i c l o) (hi:i=X.length) (hl:Y.length<=X.length):Ok32 (o++[c])/\val (o++[c])=val X+val Y:=by
 have hc0:=h.c0
 have hc1:=h.c1
 refine ⟨h.ok.append (.cons hc0 (by omega) .nil),?_⟩
 have hv:=h.v
 rw [val_snoc,h.len,hv,List.take_of_length_le (by omega),List.take_of_length_le (by omega)]
theorem plus_core (xs ys r:List Int) (hx:Ok32 xs) (hy:Ok32 ys) (ha:xs.length<=137438953472) (hb:ys.length<=137438953472) (hr:r=lb (val xs+val ys).toNat):Con Tryz.prog 217 [.ro cU xs,.ro cU ys] (.own 195 cU r):=by
 refine Con.of ttOk mixed Tryz.func217 {} .nil 0 (by kernel_rfl) (fun P' E hP hE=>?_)
 have hmk:∀ X:List Int,X.length<=137438953472->std.rng 0 0 (std.ib .add .i64 (std.len Int X) 1)/\std.fits (std.ib .add .i64 (std.len Int X) 1) 4:=by
  intro X h
  rw [s_add,s_len,w64 (by omega) (by omega),s_rng,s_fits]; omega
 obtain ⟨i0,hi0⟩:∃ i:Int,i=0:=⟨_,rfl⟩
 obtain ⟨b0,hb0⟩:∃ b:List Int,b=[]:=⟨_,rfl⟩
 cbv
 refine ⟨fun h1=>?_,fun h1=>?_⟩
 ·have hl:xs.length<=ys.length:=by
   subst hE
   have h:std.ic .lss (std.len Int xs) (std.len Int ys)=true:=h1
   simp at h
   omega
  cbv
  refine ⟨by subst hE; exact hmk ys hb,?_⟩
  cbv
  refine LoopTo.by (ι:=Int × Int × Int × List Int) (fun x=>[(22,.v (.int .i64 x.1)),(6,.v (.int .u64 x.2.1)),(5,.s 2 x.2.2.1),(19,.any)]) (fun x=>[(2,.row true 195 cU x.2.2.2)]) (fun x=>PInv ys xs x.1 x.2.1 x.2.2.1 x.2.2.2) (fun x=>(ys.length - x.1).toNat) (i0,i0,i0,b0) [] (PInv.zero hi0 hb0) ?_ ?_
  ·cbv
   subst hE
   and_intros
   all_goals first
    | exact Sm.of hb0.symm
    | (simp [hi0]; done)
  ·rintro ⟨i,c,l,o⟩ hi
   have hi:PInv ys xs i c l o:=hi
   cbv
   refine ⟨fun h2=>?_,fun h2=>?_⟩
   ·have hlt:i < ys.length:=by
     subst hE
     have h:std.ic .lss i (std.len Int ys)=true:=h2
     simpa using h
    cbv
    refine ⟨by subst hE; exact ⟨hi.i0,hlt⟩,?_⟩
    cbv
    refine ⟨fun h3=>?_,fun h3=>?_⟩
    ·have h3':i < xs.length:=by
      subst hE
      have h:std.ic .lss i (std.len Int xs)=true:=h3
      simpa using h
     have q:=hi.step hy hx hlt rfl
     have hfit:std.fits (l+1) 4:=by have hlt:i < (ys.length:Int):=hlt; rw [s_fits]; have:=hi.l; have:=hi.i0; omega
     cbv
     refine ⟨by subst hE; exact ⟨hi.i0,h3'⟩,?_⟩
     cbv
     refine ⟨by subst hE; exact hfit,?_⟩
     cbv
     refine ⟨by subst hE; simp,?_⟩
     cbv
     obtain ⟨q1,q2,q3⟩:=q
     have e1:std.ib .add .u64 (std.ib .add .u64 c (std.cv .u64 (std.get Int ys i 0))) (std.cv .u64 (std.get Int xs i 0))=c+ys.getD i.toNat 0+xs.getD i.toNat 0:=by
      have g1:=hy.get i.toNat
      have g2:=hx.get i.toNat
      have:=hi.c0
      rw [s_add,s_add,s_cv,s_cv,s_get,s_get,wu64 (n:=ys.getD i.toNat 0) (by omega) (by omega),wu64 (n:=xs.getD i.toNat 0) (by omega) (by omega),wu64 (n:=c+ys.getD i.toNat 0) (by omega) (by omega),wu64 (by omega) (by omega)]
     generalize c+ys.getD i.toNat 0+xs.getD i.toNat 0=s at q1 q2 q3 e1
     obtain ⟨i',hi'⟩:∃ j,j=i+1:=⟨_,rfl⟩
     obtain ⟨c',hc'⟩:∃ j,j=s / 4294967296:=⟨_,rfl⟩
     obtain ⟨l',hl'⟩:∃ j,j=l+1:=⟨_,rfl⟩
     obtain ⟨o',ho'⟩:∃ j,j=o++[s % 4294967296]:=⟨_,rfl⟩
     rw [<-hi',<-hc',<-hl',<-ho'] at q3
     refine ⟨(i',c',l',o'),[0,1,4],q3,by have hlt:i < (ys.length:Int):=hlt; show ((ys.length:Int) - i').toNat < ((ys.length:Int) - i).toNat; omega,?_⟩
     have hlr:∀ a:List Int,a.length=1->std.ad l (std.len Int a)=l':=by
      intro a ha
      rw [s_ad,s_len,ha,hl']; rfl
     have hrow:std.app Int (std.tk Int o l) [std.cv .u32 (std.ib .add .u64 (std.ib .add .u64 c (std.cv .u64 (std.get Int ys i 0))) (std.cv .u64 (std.get Int xs i 0)))]=o':=by
      rw [e1,s_app,s_tk,List.take_of_length_le (by have:=hi.len; have:=hi.l; omega),s_cv,IntKind.wrap_u32,ho']
     have hcc:std.ib .shr .u64 (std.ib .add .u64 (std.ib .add .u64 c (std.cv .u64 (std.get Int ys i 0))) (std.cv .u64 (std.get Int xs i 0))) 32=c':=by
      rw [e1,s_shr,hc']
      exact Int.fdiv_eq_ediv_of_nonneg _ (by decide)
     have hii:std.ib .add .i64 i 1=i':=by
      have hlt:i < (ys.length:Int):=hlt
      have:=hi.i0
      rw [s_add,w64 (by omega) (by omega),hi']
     cbv
     subst hE
     and_intros
     all_goals first
      | exact Sm.of hrow
      | exact vi hii
      | exact congrArg (fun x=>AV.v (Value.int .u64 x)) hcc
      | exact congrArg (AV.s 4) (hlr _ rfl)
      | (simp; done)
    ·have hy0:xs.getD i.toNat 0=0:=by
      subst hE
      have h:std.ic .lss i (std.len Int xs)=false:=h3
      have h:¬ i < (xs.length:Int):=by simpa using h
      have:=hi.i0
      rw [List.getD_eq_getElem?_getD,List.getElem?_eq_none (by omega)]; rfl
     have q:=hi.step hy hx hlt rfl
     have hfit:std.fits (l+1) 4:=by have hlt:i < (ys.length:Int):=hlt; rw [s_fits]; have:=hi.l; have:=hi.i0; omega
     cbv
     refine ⟨by subst hE; exact hfit,?_⟩
     cbv
     refine ⟨by subst hE; simp,?_⟩
     cbv
     obtain ⟨q1,q2,q3⟩:=q
     have e1:std.ib .add .u64 c (std.cv .u64 (std.get Int ys i 0))=c+ys.getD i.toNat 0+xs.getD i.toNat 0:=by
      have g1:=hy.get i.toNat
      have g2:=hx.get i.toNat
      have:=hi.c0
      rw [s_add,s_cv,s_get,wu64 (n:=ys.getD i.toNat 0) (by omega) (by omega),wu64 (by omega) (by omega),hy0,Int.add_zero]
     generalize c+ys.getD i.toNat 0+xs.getD i.toNat 0=s at q1 q2 q3 e1
     obtain ⟨i',hi'⟩:∃ j,j=i+1:=⟨_,rfl⟩
     obtain ⟨c',hc'⟩:∃ j,j=s / 4294967296:=⟨_,rfl⟩
     obtain ⟨l',hl'⟩:∃ j,j=l+1:=⟨_,rfl⟩
     obtain ⟨o',ho'⟩:∃ j,j=o++[s % 4294967296]:=⟨_,rfl⟩
     rw [<-hi',<-hc',<-hl',<-ho'] at q3
     refine ⟨(i',c',l',o'),[0,1,4],q3,by have hlt:i < (ys.length:Int):=hlt; show ((ys.length:Int) - i').toNat < ((ys.length:Int) - i).toNat; omega,?_⟩
     have hlr:∀ a:List Int,a.length=1->std.ad l (std.len Int a)=l':=by
      intro a ha
      rw [s_ad,s_len,ha,hl']; rfl
     have hrow:std.app Int (std.tk Int o l) [std.cv .u32 (std.ib .add .u64 c (std.cv .u64 (std.get Int ys i 0)))]=o':=by
      rw [e1,s_app,s_tk,List.take_of_length_le (by have:=hi.len; have:=hi.l; omega),s_cv,IntKind.wrap_u32,ho']
     have hcc:std.ib .shr .u64 (std.ib .add .u64 c (std.cv .u64 (std.get Int ys i 0))) 32=c':=by
      rw [e1,s_shr,hc']
      exact Int.fdiv_eq_ediv_of_nonneg _ (by decide)
     have hii:std.ib .add .i64 i 1=i':=by
      have hlt:i < (ys.length:Int):=hlt
      have:=hi.i0
      rw [s_add,w64 (by omega) (by omega),hi']
     cbv
     subst hE
     and_intros
     all_goals first
      | exact Sm.of hrow
      | exact vi hii
      | exact congrArg (fun x=>AV.v (Value.int .u64 x)) hcc
      | exact congrArg (AV.s 4) (hlr _ rfl)
      | (simp; done)
   ·have he:i=ys.length:=by
     subst hE
     have h:std.ic .lss i (std.len Int ys)=false:=h2
     have h:¬ i < (ys.length:Int):=by simpa using h
     have:=hi.i1
     omega
    have q:=hi.last hy hx he hl
    have hfit:std.fits (l+1) 4:=by rw [s_fits]; have:=hi.l; have:=hi.i0; omega
    cbv
    refine ⟨by subst hE; exact hfit,?_⟩
    cbv
    have hc:=trim_con (o++[c]) (by have he:i=(ys.length:Int):=he; rw [List.length_append,List.length_singleton]; have:=hi.len; omega)
    have hrow:∀ n:Int,n=l+1->std.tk Int (std.app Int (std.tk Int o l) [std.cv .u32 c]) n=o++[c]:=by
     intro n hn
     have h1:=hi.l; have h2:=hi.len; have h3:=hi.i0; have h4:=hi.c0; have h5:=hi.c1
     rw [s_tk,s_app,s_tk,s_cv,wu32 (by omega) (by omega),List.take_of_length_le (show o.length<=l.toNat by omega),List.take_of_length_le (by rw [List.length_append,List.length_singleton]; omega)]
    obtain ⟨n,hn⟩:∃ n,n=tlen (o++[c]):=⟨_,rfl⟩
    rw [<-hn] at hc
    have hres:std.tk Int (std.app Int (std.tk Int o l) [std.cv .u32 c]) n=r:=by
     have h1:=hi.l; have h2:=hi.len; have h3:=hi.i0; have h4:=hi.c0; have h5:=hi.c1
     rw [s_tk,s_app,s_tk,s_cv,wu32 (by omega) (by omega),List.take_of_length_le (show o.length<=l.toNat by omega),hn,Int.toNat_natCast,take_tlen q.1,q.2,hr]
     rw [Int.add_comm]
    refine CallTo.con hP hE hc ?_ ?_
    ·subst hE
     exact ⟨Sm.of (hrow _ rfl),trivial⟩
    ·cbv
     subst hE
     exact Sm.of hres
 ·have hl:ys.length<=xs.length:=by
   subst hE
   have h:std.ic .lss (std.len Int xs) (std.len Int ys)=false:=h1
   simp at h
   omega
  cbv
  refine ⟨by subst hE; exact hmk xs ha,?_⟩
  cbv
  refine LoopTo.by (ι:=Int × Int × Int × List Int) (fun x=>[(22,.v (.int .i64 x.1)),(6,.v (.int .u64 x.2.1)),(5,.s 2 x.2.2.1),(19,.any)]) (fun x=>[(2,.row true 195 cU x.2.2.2)]) (fun x=>PInv xs ys x.1 x.2.1 x.2.2.1 x.2.2.2) (fun x=>(xs.length - x.1).toNat) (i0,i0,i0,b0) [] (PInv.zero hi0 hb0) ?_ ?_
  ·cbv
   subst hE
   and_intros
   all_goals first
    | exact Sm.of hb0.symm
    | (simp [hi0]; done)
  ·rintro ⟨i,c,l,o⟩ hi
   have hi:PInv xs ys i c l o:=hi
   cbv
   refine ⟨fun h2=>?_,fun h2=>?_⟩
   ·have hlt:i < xs.length:=by
     subst hE
     have h:std.ic .lss i (std.len Int xs)=true:=h2
     simpa using h
    cbv
    refine ⟨by subst hE; exact ⟨hi.i0,hlt⟩,?_⟩
    cbv
    refine ⟨fun h3=>?_,fun h3=>?_⟩
    ·have h3':i < ys.length:=by
      subst hE
      have h:std.ic .lss i (std.len Int ys)=true:=h3
      simpa using h
     have q:=hi.step hx hy hlt rfl
     have hfit:std.fits (l+1) 4:=by have hlt:i < (xs.length:Int):=hlt; rw [s_fits]; have:=hi.l; have:=hi.i0; omega
     cbv
     refine ⟨by subst hE; exact ⟨hi.i0,h3'⟩,?_⟩
     cbv
     refine ⟨by subst hE; exact hfit,?_⟩
     cbv
     refine ⟨by subst hE; simp,?_⟩
     cbv
     obtain ⟨q1,q2,q3⟩:=q
     have e1:std.ib .add .u64 (std.ib .add .u64 c (std.cv .u64 (std.get Int xs i 0))) (std.cv .u64 (std.get Int ys i 0))=c+xs.getD i.toNat 0+ys.getD i.toNat 0:=by
      have g1:=hx.get i.toNat
      have g2:=hy.get i.toNat
      have:=hi.c0
      rw [s_add,s_add,s_cv,s_cv,s_get,s_get,wu64 (n:=xs.getD i.toNat 0) (by omega) (by omega),wu64 (n:=ys.getD i.toNat 0) (by omega) (by omega),wu64 (n:=c+xs.getD i.toNat 0) (by omega) (by omega),wu64 (by omega) (by omega)]
     generalize c+xs.getD i.toNat 0+ys.getD i.toNat 0=s at q1 q2 q3 e1
     obtain ⟨i',hi'⟩:∃ j,j=i+1:=⟨_,rfl⟩
     obtain ⟨c',hc'⟩:∃ j,j=s / 4294967296:=⟨_,rfl⟩
     obtain ⟨l',hl'⟩:∃ j,j=l+1:=⟨_,rfl⟩
     obtain ⟨o',ho'⟩:∃ j,j=o++[s % 4294967296]:=⟨_,rfl⟩
     rw [<-hi',<-hc',<-hl',<-ho'] at q3
     refine ⟨(i',c',l',o'),[0,1,4],q3,by have hlt:i < (xs.length:Int):=hlt; show ((xs.length:Int) - i').toNat < ((xs.length:Int) - i).toNat; omega,?_⟩
     have hlr:∀ a:List Int,a.length=1->std.ad l (std.len Int a)=l':=by
      intro a ha
      rw [s_ad,s_len,ha,hl']; rfl
     have hrow:std.app Int (std.tk Int o l) [std.cv .u32 (std.ib .add .u64 (std.ib .add .u64 c (std.cv .u64 (std.get Int xs i 0))) (std.cv .u64 (std.get Int ys i 0)))]=o':=by
      rw [e1,s_app,s_tk,List.take_of_length_le (by have:=hi.len; have:=hi.l; omega),s_cv,IntKind.wrap_u32,ho']
     have hcc:std.ib .shr .u64 (std.ib .add .u64 (std.ib .add .u64 c (std.cv .u64 (std.get Int xs i 0))) (std.cv .u64 (std.get Int ys i 0))) 32=c':=by
      rw [e1,s_shr,hc']
      exact Int.fdiv_eq_ediv_of_nonneg _ (by decide)
     have hii:std.ib .add .i64 i 1=i':=by
      have hlt:i < (xs.length:Int):=hlt
      have:=hi.i0
      rw [s_add,w64 (by omega) (by omega),hi']
     cbv
     subst hE
     and_intros
     all_goals first
      | exact Sm.of hrow
      | exact vi hii
      | exact congrArg (fun x=>AV.v (Value.int .u64 x)) hcc
      | exact congrArg (AV.s 4) (hlr _ rfl)
      | (simp; done)
    ·have hy0:ys.getD i.toNat 0=0:=by
      subst hE
      have h:std.ic .lss i (std.len Int ys)=false:=h3
      have h:¬ i < (ys.length:Int):=by simpa using h
      have:=hi.i0
      rw [List.getD_eq_getElem?_getD,List.getElem?_eq_none (by omega)]; rfl
     have q:=hi.step hx hy hlt rfl
     have hfit:std.fits (l+1) 4:=by have hlt:i < (xs.length:Int):=hlt; rw [s_fits]; have:=hi.l; have:=hi.i0; omega
     cbv
     refine ⟨by subst hE; exact hfit,?_⟩
     cbv
     refine ⟨by subst hE; simp,?_⟩
     cbv
     obtain ⟨q1,q2,q3⟩:=q
     have e1:std.ib .add .u64 c (std.cv .u64 (std.get Int xs i 0))=c+xs.getD i.toNat 0+ys.getD i.toNat 0:=by
      have g1:=hx.get i.toNat
      have g2:=hy.get i.toNat
      have:=hi.c0
      rw [s_add,s_cv,s_get,wu64 (n:=xs.getD i.toNat 0) (by omega) (by omega),wu64 (by omega) (by omega),hy0,Int.add_zero]
     generalize c+xs.getD i.toNat 0+ys.getD i.toNat 0=s at q1 q2 q3 e1
     obtain ⟨i',hi'⟩:∃ j,j=i+1:=⟨_,rfl⟩
     obtain ⟨c',hc'⟩:∃ j,j=s / 4294967296:=⟨_,rfl⟩
     obtain ⟨l',hl'⟩:∃ j,j=l+1:=⟨_,rfl⟩
     obtain ⟨o',ho'⟩:∃ j,j=o++[s % 4294967296]:=⟨_,rfl⟩
     rw [<-hi',<-hc',<-hl',<-ho'] at q3
     refine ⟨(i',c',l',o'),[0,1,4],q3,by have hlt:i < (xs.length:Int):=hlt; show ((xs.length:Int) - i').toNat < ((xs.length:Int) - i).toNat; omega,?_⟩
     have hlr:∀ a:List Int,a.length=1->std.ad l (std.len Int a)=l':=by
      intro a ha
      rw [s_ad,s_len,ha,hl']; rfl
     have hrow:std.app Int (std.tk Int o l) [std.cv .u32 (std.ib .add .u64 c (std.cv .u64 (std.get Int xs i 0)))]=o':=by
      rw [e1,s_app,s_tk,List.take_of_length_le (by have:=hi.len; have:=hi.l; omega),s_cv,IntKind.wrap_u32,ho']
     have hcc:std.ib .shr .u64 (std.ib .add .u64 c (std.cv .u64 (std.get Int xs i 0))) 32=c':=by
      rw [e1,s_shr,hc']
      exact Int.fdiv_eq_ediv_of_nonneg _ (by decide)
     have hii:std.ib .add .i64 i 1=i':=by
      have hlt:i < (xs.length:Int):=hlt
      have:=hi.i0
      rw [s_add,w64 (by omega) (by omega),hi']
     cbv
     subst hE
     and_intros
     all_goals first
      | exact Sm.of hrow
      | exact vi hii
      | exact congrArg (fun x=>AV.v (Value.int .u64 x)) hcc
      | exact congrArg (AV.s 4) (hlr _ rfl)
      | (simp; done)
   ·have he:i=xs.length:=by
     subst hE
     have h:std.ic .lss i (std.len Int xs)=false:=h2
     have h:¬ i < (xs.length:Int):=by simpa using h
     have:=hi.i1
     omega
    have q:=hi.last hx hy he hl
    have hfit:std.fits (l+1) 4:=by rw [s_fits]; have:=hi.l; have:=hi.i0; omega
    cbv
    refine ⟨by subst hE; exact hfit,?_⟩
    cbv
    have hc:=trim_con (o++[c]) (by have he:i=(xs.length:Int):=he; rw [List.length_append,List.length_singleton]; have:=hi.len; omega)
    have hrow:∀ n:Int,n=l+1->std.tk Int (std.app Int (std.tk Int o l) [std.cv .u32 c]) n=o++[c]:=by
     intro n hn
     have h1:=hi.l; have h2:=hi.len; have h3:=hi.i0; have h4:=hi.c0; have h5:=hi.c1
     rw [s_tk,s_app,s_tk,s_cv,wu32 (by omega) (by omega),List.take_of_length_le (show o.length<=l.toNat by omega),List.take_of_length_le (by rw [List.length_append,List.length_singleton]; omega)]
    obtain ⟨n,hn⟩:∃ n,n=tlen (o++[c]):=⟨_,rfl⟩
    rw [<-hn] at hc
    have hres:std.tk Int (std.app Int (std.tk Int o l) [std.cv .u32 c]) n=r:=by
     have h1:=hi.l; have h2:=hi.len; have h3:=hi.i0; have h4:=hi.c0; have h5:=hi.c1
     rw [s_tk,s_app,s_tk,s_cv,wu32 (by omega) (by omega),List.take_of_length_le (show o.length<=l.toNat by omega),hn,Int.toNat_natCast,take_tlen q.1,q.2,hr]
    refine CallTo.con hP hE hc ?_ ?_
    ·subst hE
     exact ⟨Sm.of (hrow _ rfl),trivial⟩
    ·cbv
     subst hE
     exact Sm.of hres
theorem plus_con (a b:Nat) (ha:(lb a).length<=137438953472) (hb:(lb b).length<=137438953472):Con Tryz.prog 217 [.ro cU (lb a),.ro cU (lb b)] (.own 195 cU (lb (a+b))):=
 plus_core _ _ _ (lb_ok a) (lb_ok b) ha hb (by rw [val_lb,val_lb]; rfl)
end Go.Proofs.YtkipmmiiackdaaaGreat.Sx
