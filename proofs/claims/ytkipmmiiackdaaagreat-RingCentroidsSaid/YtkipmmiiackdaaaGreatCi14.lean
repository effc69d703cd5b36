/- Part 14 of what the statement needs: an executor of Go texts, arithmetic, and contracts of the functions that are called. -/
import Derived.Test.YtkipmmiiackdaaaGreatCi13
set_option linter.unusedSimpArgs false
set_option linter.unusedVariables false
set_option maxHeartbeats 4000000
set_option maxRecDepth 100000
namespace Go.Proofs.YtkipmmiiackdaaaGreat.Sx
open Env (std)
theorem tup2 {k k':IntKind} {a a' b b':Int} (h:a=a') (h':b=b'):Value.tuple #[.int k a,.int k' b]=Value.tuple #[.int k a',.int k' b']:=by rw [h,h']
theorem msb_shr (z:BitVec 32):z.toNat / 2147483648=if z.msb then 1 else 0:=by
 have h:=z.isLt
 rw [BitVec.msb_eq_decide]
 by_cases h2:2 ^ (32 - 1)<=z.toNat
 ·simp only [h2,decide_true,if_true]; omega
 ·simp only [h2,decide_false]; simp; omega
theorem msb_of {x:Int} (h0:0<=x) (h1:x < 4294967296):(BitVec.ofInt 32 x).msb=decide (2147483648<=x):=by
 rw [BitVec.msb_eq_decide,BitVec.toNat_ofInt]
 by_cases h:2147483648<=x
 ·simp only [h,decide_true,decide_eq_true_eq]; omega
 ·simp only [h,decide_false,decide_eq_false_iff_not]; omega
theorem not32 {x:Int} (h0:0<=x) (h1:x < 4294967296):BitVec.ofInt 32 (std.un .xor .u32 x) = ~~~ BitVec.ofInt 32 x:=by
 show BitVec.ofInt 32 (IntKind.u32.wrap ((BitVec.ofInt 32 4294967295 ^^^ BitVec.ofInt 32 x).toNat:Int))=_
 have hb:=(BitVec.ofInt 32 4294967295 ^^^ BitVec.ofInt 32 x).isLt
 rw [wu32 (by omega) (by omega),BitVec.ofInt_natCast,BitVec.ofNat_toNat,BitVec.setWidth_eq]
 have:BitVec.ofInt 32 4294967295=BitVec.allOnes 32:=by decide
 rw [this,BitVec.allOnes_xor]
theorem bin32 {op:BinOp} {f:BitVec 32->BitVec 32->BitVec 32} (h:∀ a b,std.ib op .u32 a b=IntKind.u32.wrap ((f (BitVec.ofInt 32 a) (BitVec.ofInt 32 b)).toNat:Int)) (a b:Int):BitVec.ofInt 32 (std.ib op .u32 a b)=f (BitVec.ofInt 32 a) (BitVec.ofInt 32 b)/\std.ib op .u32 a b=((f (BitVec.ofInt 32 a) (BitVec.ofInt 32 b)).toNat:Int):=by
 have hb:=(f (BitVec.ofInt 32 a) (BitVec.ofInt 32 b)).isLt
 rw [h,wu32 (by omega) (by omega),BitVec.ofInt_natCast,BitVec.ofNat_toNat,BitVec.setWidth_eq]
 exact ⟨rfl,rfl⟩
theorem and32 (a b:Int):BitVec.ofInt 32 (std.ib .and .u32 a b)=BitVec.ofInt 32 a &&& BitVec.ofInt 32 b/\std.ib .and .u32 a b=((BitVec.ofInt 32 a &&& BitVec.ofInt 32 b).toNat:Int):=
 bin32 (op:=.and) (f:=fun x y=>x &&& y) (fun _ _=>rfl) a b
theorem or32b (a b:Int):BitVec.ofInt 32 (std.ib .or .u32 a b)=BitVec.ofInt 32 a ||| BitVec.ofInt 32 b/\std.ib .or .u32 a b=((BitVec.ofInt 32 a ||| BitVec.ofInt 32 b).toNat:Int):=
 bin32 (op:=.or) (f:=fun x y=>x ||| y) (fun _ _=>rfl) a b
theorem xor32 (a b:Int):BitVec.ofInt 32 (std.ib .xor .u32 a b)=BitVec.ofInt 32 a ^^^ BitVec.ofInt 32 b/\std.ib .xor .u32 a b=((BitVec.ofInt 32 a ^^^ BitVec.ofInt 32 b).toNat:Int):=
 bin32 (op:=.xor) (f:=fun x y=>x ^^^ y) (fun _ _=>rfl) a b
theorem borrow32 {x y d:Int} (x0:0<=x) (x1:x < 4294967296) (y0:0<=y) (y1:y < 4294967296) (d0:0<=d) (d1:d < 4294967296) :
  std.ib .shr .u32 (std.ib .or .u32 (std.ib .and .u32 (std.un .xor .u32 x) y) (std.ib .and .u32 (std.un .xor .u32 (std.ib .xor .u32 x y)) d)) 31=if (!decide (2147483648<=x) && decide (2147483648<=y)) || (!(decide (2147483648<=x) ^^ decide (2147483648<=y)) && decide (2147483648<=d)) then 1 else 0:=by
 have hx:0<=std.ib .xor .u32 x y/\std.ib .xor .u32 x y < 4294967296:=by
  rw [(xor32 x y).2]
  have:=(BitVec.ofInt 32 x ^^^ BitVec.ofInt 32 y).isLt
  omega
 rw [(or32b _ _).2,s_shr]
 have:∀ n:Nat,(n:Int).fdiv (2 ^ (min (31:Int).toNat IntKind.u32.bits))=((n / 2147483648:Nat):Int):=fun n=>Int.fdiv_eq_ediv_of_nonneg _ (by decide)
 rw [this,msb_shr,BitVec.msb_or,(and32 _ _).1,(and32 _ _).1,BitVec.msb_and,BitVec.msb_and,not32 x0 x1,not32 hx.1 hx.2,(xor32 x y).1,BitVec.msb_not,BitVec.msb_not,BitVec.msb_xor,msb_of x0 x1,msb_of y0 y1,msb_of d0 d1]
 simp
 split<;>rfl
theorem sub32_con (x y b d b':Int) (x0:0<=x) (x1:x < 4294967296) (y0:0<=y) (y1:y < 4294967296) (b0:0<=b) (b1:b<=1) (hd:d=(x - y - b) % 4294967296) (hb:b' = - ((x - y - b) / 4294967296)):Con Tryz.prog 284 [.v (.int .u32 x),.v (.int .u32 y),.v (.int .u32 b)] (.v (.tuple #[.int .u32 d,.int .u32 b'])):=by
 refine Con.of ttOk mixed Tryz.func284 {} .nil 0 (by kernel_rfl) (fun P' E hP hE=>?_)
 have h1:std.ib .sub .u32 (std.ib .sub .u32 x y) b=d:=by
  rw [s_sub,s_sub,IntKind.wrap_u32,IntKind.wrap_u32]; omega
 have h2:std.ib .shr .u32 (std.ib .or .u32 (std.ib .and .u32 (std.un .xor .u32 x) y) (std.ib .and .u32 (std.un .xor .u32 (std.ib .xor .u32 x y)) (std.ib .sub .u32 (std.ib .sub .u32 x y) b))) 31=b':=by
  rw [h1,borrow32 x0 x1 y0 y1 (by omega) (by omega),hb]
  by_cases c1:2147483648<=x<;>by_cases c2:2147483648<=y<;>by_cases c3:2147483648<=d<;>simp [c1,c2,c3]<;>omega
 cbv
 refine ⟨by subst hE; simp,?_⟩
 cbv
 subst hE
 exact tup2 h1 h2
theorem add32_con (x y b d b':Int) (x0:0<=x) (x1:x < 4294967296) (y0:0<=y) (y1:y < 4294967296) (b0:0<=b) (b1:b<=1) (hd:d=(x+y+b) % 4294967296) (hb:b'=(x+y+b) / 4294967296):Con Tryz.prog 344 [.v (.int .u32 x),.v (.int .u32 y),.v (.int .u32 b)] (.v (.tuple #[.int .u32 d,.int .u32 b'])):=by
 refine Con.of ttOk mixed Tryz.func344 {} .nil 0 (by kernel_rfl) (fun P' E hP hE=>?_)
 have h0:std.ib .add .u64 (std.ib .add .u64 (std.cv .u64 x) (std.cv .u64 y)) (std.cv .u64 b)=x+y+b:=by
  rw [s_add,s_add,s_cv,s_cv,s_cv,wu64 (n:=x) (by omega) (by omega),wu64 (n:=y) (by omega) (by omega),wu64 (n:=b) (by omega) (by omega),wu64 (n:=x+y) (by omega) (by omega),wu64 (by omega) (by omega)]
 have h1:std.cv .u32 (std.ib .add .u64 (std.ib .add .u64 (std.cv .u64 x) (std.cv .u64 y)) (std.cv .u64 b))=d:=by
  rw [h0,s_cv,IntKind.wrap_u32,hd]
 have h2:std.cv .u32 (std.ib .shr .u64 (std.ib .add .u64 (std.ib .add .u64 (std.cv .u64 x) (std.cv .u64 y)) (std.cv .u64 b)) 32)=b':=by
  have h:(x+y+b).fdiv (2 ^ (min (32:Int).toNat IntKind.u64.bits))=(x+y+b) / 4294967296:=Int.fdiv_eq_ediv_of_nonneg _ (by decide)
  rw [h0,s_cv,s_shr,h,wu32 (by omega) (by omega),hb]
 cbv
 refine ⟨by subst hE; simp,?_⟩
 cbv
 subst hE
 exact tup2 h1 h2
theorem or64 {a b:Int} (k:Nat) {c:Nat} (h0:0<=a) (h1:a < ((2 ^ k:Nat):Int)) (hb:b=((2 ^ k*c:Nat):Int)) (h2:a+b < 18446744073709551616):std.ib .or .u64 a b=a+b/\std.ib .or .u64 b a=b+a:=by
 have hb0:0<=b:=by omega
 have e1:(BitVec.ofInt 64 a).toNat=a.toNat:=by rw [BitVec.toNat_ofInt]; omega
 have e2:(BitVec.ofInt 64 b).toNat=b.toNat:=by rw [BitVec.toNat_ofInt]; omega
 have hk:a.toNat < 2 ^ k:=by omega
 have hbn:b.toNat=2 ^ k*c:=by omega
 have e3:(BitVec.ofInt 64 b ||| BitVec.ofInt 64 a).toNat=b.toNat+a.toNat:=by
  rw [BitVec.toNat_or,e1,e2,hbn,<-Nat.two_pow_add_eq_or_of_lt hk]
 have e4:(BitVec.ofInt 64 a ||| BitVec.ofInt 64 b).toNat=a.toNat+b.toNat:=by
  rw [BitVec.toNat_or,e1,e2,hbn,Nat.or_comm,<-Nat.two_pow_add_eq_or_of_lt hk,Nat.add_comm]
 constructor
 ·show IntKind.u64.wrap ((BitVec.ofInt 64 a ||| BitVec.ofInt 64 b).toNat:Int)=a+b
  rw [e4,wu64 (by omega) (by omega)]
  omega
 ·show IntKind.u64.wrap ((BitVec.ofInt 64 b ||| BitVec.ofInt 64 a).toNat:Int)=b+a
  rw [e3,wu64 (by omega) (by omega)]
  omega
/-- Two words side by side. -/
theorem hilo {x y:Int} (x0:0<=x) (x1:x < 4294967296) (y0:0<=y) (y1:y < 4294967296):std.ib .or .u64 (std.ib .shl .u64 (std.cv .u64 x) 32) (std.cv .u64 y)=x*4294967296+y:=by
 have h:x*2 ^ (min (32:Int).toNat IntKind.u64.bits)=x*4294967296:=rfl
 rw [s_cv,s_cv,wu64 (n:=x) (by omega) (by omega),wu64 (n:=y) (by omega) (by omega),s_shl,h,wu64 (by omega) (by omega)]
 have h2:((2 ^ 32:Nat):Int)=4294967296:=by decide
 exact (or64 (a:=y) (b:=x*4294967296) 32 (c:=x.toNat) y0 (by rw [h2]; exact y1) (by rw [Int.natCast_mul,h2]; omega) (by omega)).2
theorem div32_con (x y d q r:Int) (x0:0<=x) (x1:x < d) (y0:0<=y) (y1:y < 4294967296) (d1:d < 4294967296) (hq:q=(x*4294967296+y) / d) (hr:r=(x*4294967296+y) % d):Con Tryz.prog 343 [.v (.int .u32 x),.v (.int .u32 y),.v (.int .u32 d)] (.v (.tuple #[.int .u32 q,.int .u32 r])):=by
 refine Con.of ttOk mixed Tryz.func343 { ord:=[(4,List.range 12)] } .nil 0 (by kernel_rfl) (fun P' E hP hE=>?_)
 have h0:=hilo x0 (by omega:x < 4294967296) y0 y1
 have hd:std.cv .u64 d=d:=by rw [s_cv,wu64 (by omega) (by omega)]
 have hp:0<=x*4294967296+y:=by omega
 have hlt:(x*4294967296+y) / d < 4294967296:=Int.ediv_lt_of_lt_mul (by omega) (by
  have:x+1<=d:=by omega
  have:(x+1)*4294967296<=d*4294967296:=Int.mul_le_mul_of_nonneg_right this (by decide)
  rw [Int.mul_comm 4294967296]
  omega)
 have hge:0<=(x*4294967296+y) / d:=Int.ediv_nonneg hp (by omega)
 have hm0:=Int.emod_nonneg (x*4294967296+y) (by omega:d ≠ 0)
 have hm1:=Int.emod_lt_of_pos (x*4294967296+y) (by omega:0 < d)
 have h1:std.cv .u32 (std.ib .quo .u64 (std.ib .or .u64 (std.ib .shl .u64 (std.cv .u64 x) 32) (std.cv .u64 y)) (std.cv .u64 d))=q:=by
  rw [h0,hd,s_quo,s_cv,Int.tdiv_eq_ediv_of_nonneg hp,wu64 (by omega) (by omega),wu32 hge hlt,hq]
 have h2:std.cv .u32 (std.ib .rem .u64 (std.ib .or .u64 (std.ib .shl .u64 (std.cv .u64 x) 32) (std.cv .u64 y)) (std.cv .u64 d))=r:=by
  rw [h0,hd,s_rem,s_cv,Int.tmod_eq_emod_of_nonneg hp,wu32 hm0 (by omega),hr]
 cbv
 refine ⟨fun h=>?_,fun h=>?_⟩
 ·cbv
  refine ⟨fun h'=>?_,fun h'=>?_⟩
  ·exfalso
   subst hE
   have h:std.ic .leq d x=true:=h'
   simp at h
   omega
  ·cbv
   refine ⟨by subst hE; simp,?_⟩
   cbv
   refine ⟨by subst hE; show std.nz .quo (std.cv .u64 d); rw [hd]; simp; omega,?_⟩
   cbv
   refine ⟨by subst hE; show std.nz .rem (std.cv .u64 d); rw [hd]; simp; omega,?_⟩
   cbv
   subst hE
   exact tup2 h1 h2
 ·exfalso
  subst hE
  have h:std.ic .neq d 0=false:=h
  simp at h
  omega
/-- How many digits of two a number has. -/
def IsLen (n x:Nat):Prop:=x < 2 ^ n/\(n=0\/2 ^ (n - 1)<=x)
theorem IsLen.uni {n m x:Nat} (h:IsLen n x) (h':IsLen m x):n=m:=by
 obtain ⟨h1,h2⟩:=h
 obtain ⟨h3,h4⟩:=h'
 rcases Nat.lt_trichotomy n m with c | c | c
 ·have:2 ^ n<=2 ^ (m - 1):=Nat.pow_le_pow_right (by decide) (by omega)
  omega
 ·exact c
 ·have:2 ^ m<=2 ^ (n - 1):=Nat.pow_le_pow_right (by decide) (by omega)
  omega
theorem IsLen.up {n x:Nat} (k:Nat) (h:IsLen n (x / 2 ^ k)) (hx:2 ^ k<=x):IsLen (k+n) x:=by
 have hk:0 < 2 ^ k:=Nat.pow_pos (by decide)
 obtain ⟨h1,h2⟩:=h
 have h3:x < 2 ^ (k+n):=by
  rw [Nat.pow_add,Nat.mul_comm]
  exact (Nat.div_lt_iff_lt_mul hk).1 h1
 refine ⟨h3,Or.inr ?_⟩
 rcases h2 with h2 | h2
 ·rw [h2,Nat.add_zero] at h3
  omega
 ·by_cases h0:n=0
  ·rw [h0,Nat.add_zero] at h3
   omega
  ·have:k+n - 1=n - 1+k:=by omega
   rw [this,Nat.pow_add]
   exact (Nat.le_div_iff_mul_le hk).1 h2
def lenTab:ByteArray:=⟨(([0,1]++List.replicate 2 2++List.replicate 4 3++List.replicate 8 4++List.replicate 16 5++List.replicate 32 6++List.replicate 64 7++List.replicate 128 8:List UInt8)).toArray⟩
instance (n x:Nat):Decidable (IsLen n x):=inferInstanceAs (Decidable (_/\_))
theorem lenTab_at:∀ b:Nat,b < 256->IsLen ((lenTab[b]?).getD 0).toNat b:=by decide +kernel
theorem lenTab_le:∀ b:Nat,b < 256->((lenTab[b]?).getD 0).toNat<=8:=by decide +kernel
theorem ends {Y:Int} {y c n:Nat} (hY:Y=y) (hy:y < 256) (hc:c<=24) (h:∀ m,IsLen m y->IsLen (c+m) n) {k:Nat} (hk:IsLen k n):std.inb (std.cv .u8 Y) (std.sz lenTab)/\std.ib .add .i64 c (std.cv .i64 (std.sa lenTab (std.cv .u8 Y)))=k:=by
 have h1:std.cv .u8 Y=y:=by rw [s_cv,hY,wu8 (by omega) (by omega)]
 have h2:lenTab.size=256:=by decide +kernel
 have h3:=lenTab_le y hy
 have h4:=(h _ (lenTab_at y hy)).uni hk
 refine ⟨?_,?_⟩
 ·rw [h1,s_sz,h2,s_inb]; omega
 ·rw [h1,s_sa,Int.toNat_natCast,s_cv,w64 (by omega) (by omega),s_add,w64 (by omega) (by omega),<-h4]; rfl
theorem shr32n (x:Int) (k:Nat) (hk:k<=32) (h0:0<=x):std.ib .shr .u32 x (k:Int)=((x.toNat / 2 ^ k:Nat):Int):=by
 have h:(x.toNat:Int)=x:=by omega
 have:min ((k:Int).toNat) IntKind.u32.bits=k:=by show min ((k:Int).toNat) 32=k; omega
 rw [s_shr,this,Int.natCast_ediv,h]
 have h2:((2 ^ k:Nat):Int)=2 ^ k:=by simp
 rw [h2]
 exact Int.fdiv_eq_ediv_of_nonneg _ (Int.le_of_lt (Int.pow_pos (by decide)))
theorem len32_con (x:Int) (n:Nat) (h0:0<=x) (hx:x < 4294967296) (h:IsLen n x.toNat):Con Tryz.prog 328 [.v (.int .u32 x)] (.v (.int .i64 n)):=by
 refine Con.of ttOk mixed Tryz.func328 {} .nil 0 (by kernel_rfl) (fun P' E hP hE=>?_)
 have e16:std.ib .shr .u32 x 16=((x.toNat / 65536:Nat):Int):=shr32n x 16 (by decide) h0
 cbv
 refine ⟨fun h1=>?_,fun h1=>?_⟩
 ·have h1:65536<=x:=by
   subst hE
   have h:std.ic .geq x 65536=true:=h1
   simpa using h
  cbv
  refine ⟨by subst hE; simp,?_⟩
  cbv
  refine ⟨fun h2=>?_,fun h2=>?_⟩
  ·have h2:16777216<=x:=by
    subst hE
    have h:std.ic .geq (std.ib .shr .u32 x 16) 256=true:=h2
    rw [e16] at h
    simp at h
    omega
   have e8:std.ib .shr .u32 (std.ib .shr .u32 x 16) 8=((x.toNat / 16777216:Nat):Int):=by
    have h:std.ib .shr .u32 ((x.toNat / 65536:Nat):Int) 8=(((((x.toNat / 65536:Nat):Int)).toNat / 2 ^ 8:Nat):Int):=shr32n _ 8 (by decide) (by omega)
    rw [e16,h]; omega
   have q:=ends e8 (by omega) (by decide:24<=24) (fun m hm=>IsLen.up (x:=x.toNat) 24 hm (by omega)) h
   cbv
   refine ⟨by subst hE; simp,?_⟩
   cbv
   refine ⟨by subst hE; exact q.1,?_⟩
   cbv
   subst hE
   exact congrArg (Value.int .i64) q.2
  ·have h2:x < 16777216:=by
    subst hE
    have h:std.ic .geq (std.ib .shr .u32 x 16) 256=false:=h2
    rw [e16] at h
    simp at h
    omega
   have q:=ends e16 (by omega) (by decide:16<=24) (fun m hm=>IsLen.up (x:=x.toNat) 16 hm (by omega)) h
   cbv
   refine ⟨by subst hE; exact q.1,?_⟩
   cbv
   subst hE
   exact congrArg (Value.int .i64) q.2
 ·have h1:x < 65536:=by
   subst hE
   have h:std.ic .geq x 65536=false:=h1
   simpa using h
  cbv
  refine ⟨fun h2=>?_,fun h2=>?_⟩
  ·have h2:256<=x:=by
    subst hE
    have h:std.ic .geq x 256=true:=h2
    simpa using h
   have e8:std.ib .shr .u32 x 8=((x.toNat / 256:Nat):Int):=shr32n x 8 (by decide) h0
   have q:=ends e8 (by omega) (by decide:8<=24) (fun m hm=>IsLen.up (x:=x.toNat) 8 hm (by omega)) h
   cbv
   refine ⟨by subst hE; simp,?_⟩
   cbv
   refine ⟨by subst hE; exact q.1,?_⟩
   cbv
   subst hE
   exact congrArg (Value.int .i64) q.2
  ·have h2:x < 256:=by
    subst hE
    have h:std.ic .geq x 256=false:=h2
    simpa using h
   have q:=ends (Y:=x) (y:=x.toNat) (by omega) (by omega) (by decide:0<=24) (fun m hm=>by rw [Nat.zero_add]; exact hm) h
   cbv
   refine ⟨by subst hE; exact q.1,?_⟩
   cbv
   subst hE
   exact congrArg (Value.int .i64) q.2
theorem lz32_con (x:Int) (n:Nat) (h0:0<=x) (hx:x < 4294967296) (h:IsLen n x.toNat) (hn:n<=32):Con Tryz.prog 317 [.v (.int .u32 x)] (.v (.int .i64 (32 - n))):=by
 refine Con.of ttOk mixed Tryz.func317 {} .nil 0 (by kernel_rfl) (fun P' E hP hE=>?_)
 have hc:=len32_con x n h0 hx h
 obtain ⟨u,hu⟩:∃ u:Int,u=n:=⟨_,rfl⟩
 rw [<-hu] at hc ⊢
 obtain ⟨v,hv⟩:∃ v:Int,v=32 - u:=⟨_,rfl⟩
 rw [<-hv]
 have h1:std.ib .sub .i64 32 u=v:=by
  rw [s_sub,w64 (by omega) (by omega),hv]
 cbv
 refine CallTo.con hP hE hc (by cbv<;>simp) ?_
 cbv
 subst hE
 exact congrArg (Value.int .i64) h1
theorem getD_ge {xs:List Int} {i:Nat} (h:xs.length<=i):xs.getD i 0=0:=by
 rw [List.getD_eq_getElem?_getD,List.getElem?_eq_none h]; rfl
theorem getD_set {xs:List Int} {i j:Nat} {v:Int} (h:i < xs.length):(xs.set i v).getD j 0=if i=j then v else xs.getD j 0:=by
 simp only [List.getD_eq_getElem?_getD,List.getElem?_set]
 by_cases c:i=j
 ·rw [if_pos c,if_pos c,if_pos h]; rfl
 ·rw [if_neg c,if_neg c]
structure MInv (X Y:List Int) (i b:Int) (o:List Int):Prop where
 i0:0<=i
 i1:i<=X.length
 len:o.length=X.length
 ok:Ok32 o
 b0:0<=b
 b1:b<=1
 z:∀ j,i.toNat<=j->o.getD j 0=0
 v:val o=val (X.take i.toNat) - val (Y.take i.toNat)+b*4294967296 ^ i.toNat
theorem rep_getD (n j:Nat):(List.replicate n (0:Int)).getD j 0=0:=by
 simp only [List.getD_eq_getElem?_getD,List.getElem?_replicate]
 split<;>rfl
theorem MInv.zero {X Y:List Int} {i:Int} {o:List Int} (hi:i=0) (ho:o=List.replicate X.length 0):MInv X Y i i o:=by
 subst hi; subst ho
 exact ⟨by omega,by omega,by simp,.rep _,by omega,by omega,fun j _=>rep_getD _ _,by rw [val_rep]; simp [val]⟩
theorem MInv.step {X Y:List Int} (hX:Ok32 X) (hY:Ok32 Y) {i b d b':Int} {o:List Int} (h:MInv X Y i b o) (hi:i < X.length) (hd:d=(X.getD i.toNat 0 - Y.getD i.toNat 0 - b) % 4294967296) (hb:b' = - ((X.getD i.toNat 0 - Y.getD i.toNat 0 - b) / 4294967296)) :
  MInv X Y (i+1) b' (o.set i.toNat d):=by
 have hx:=hX.get i.toNat
 have hy:=hY.get i.toNat
 have h0:=h.b0
 have h1:=h.b1
 have hi0:=h.i0
 have e:(i+1).toNat=i.toNat+1:=by omega
 have hlt:i.toNat < o.length:=by rw [h.len]; omega
 refine ⟨by omega,by omega,by rw [List.length_set,h.len],h.ok.set (by omega) (by omega) _,by omega,by omega,fun j hj=>?_,?_⟩
 ·rw [getD_set hlt,if_neg (by omega)]
  exact h.z j (by omega)
 ·have hv:=h.v
  rw [val_set _ _ _ hlt,h.z _ (Nat.le_refl _),e,val_take_succ,val_take_succ,Int.pow_succ]
  have hs2:d=X.getD i.toNat 0 - Y.getD i.toNat 0 - b+4294967296*b':=by omega
  generalize X.getD i.toNat 0=x at *
  generalize Y.getD i.toNat 0=y at *
  generalize (4294967296:Int) ^ i.toNat=p at *
  rw [hs2,hv]
  grind
theorem MInv.last {X Y:List Int} {i b:Int} {o:List Int} (h:MInv X Y i b o) (hi:i=X.length) (hl:Y.length<=X.length) (hv:val Y<=val X):val o=val X - val Y:=by
 have hb0:=h.b0
 have hb1:=h.b1
 have hlt:=val_lt h.ok
 have hvv:=h.v
 rw [List.take_of_length_le (by omega),List.take_of_length_le (by omega)] at hvv
 have hl2:o.length=i.toNat:=by rw [h.len]; omega
 rw [hl2] at hlt
 have hp:=pow_pos32 i.toNat
 generalize (4294967296:Int) ^ i.toNat=p at *
 have hbb:b=0\/b=1:=by omega
 rcases hbb with c | c
 ·rw [c] at hvv; omega
 ·rw [c] at hvv; omega
theorem minus_core (xs ys r:List Int) (hx:Ok32 xs) (hy:Ok32 ys) (ha:xs.length<=137438953472) (hl:ys.length<=xs.length) (hv:val ys<=val xs) (hr:r=lb (val xs - val ys).toNat):Con Tryz.prog 219 [.ro cU xs,.ro cU ys] (.own 195 cU r):=by
 refine Con.of ttOk mixed Tryz.func219 {} .nil 0 (by kernel_rfl) (fun P' E hP hE=>?_)
 have hmk:∀ X:List Int,X.length<=137438953472->std.rng 0 (std.len Int X) (std.len Int X)/\std.fits (std.len Int X) 4:=by
  intro X h
  rw [s_len,s_rng,s_fits]; omega
 obtain ⟨i0,hi0⟩:∃ i:Int,i=0:=⟨_,rfl⟩
 obtain ⟨o0,ho0⟩:∃ b:List Int,b=List.replicate xs.length 0:=⟨_,rfl⟩
 cbv
 refine ⟨by subst hE; exact hmk xs ha,?_⟩
 cbv
 refine LoopTo.by (ι:=Int × Int × List Int) (fun x=>[(15,.v (.int .i64 x.1)),(6,.v (.int .u32 x.2.1))]) (fun x=>[(2,.row true 195 cU x.2.2)]) (fun x=>MInv xs ys x.1 x.2.1 x.2.2) (fun x=>(xs.length - x.1).toNat) (i0,i0,o0) [] (MInv.zero hi0 ho0) ?_ ?_
 ·cbv
  subst hE
  and_intros
  all_goals first
   | exact Sm.of ho0.symm
   | exact congrArg (Value.int _) hi0.symm
   | (simp; done)
 ·rintro ⟨i,b,o⟩ hi
  have hi:MInv xs ys i b o:=hi
  cbv
  refine ⟨fun h2=>?_,fun h2=>?_⟩
  ·have hlt:i < xs.length:=by
    subst hE
    have h:std.ic .lss i (std.len Int xs)=true:=h2
    simpa using h
   cbv
   refine ⟨by subst hE; exact ⟨hi.i0,hlt⟩,?_⟩
   cbv
   refine ⟨fun h3=>?_,fun h3=>?_⟩
   ·have h3':i < ys.length:=by
     subst hE
     have h:std.ic .lss i (std.len Int ys)=true:=h3
     simpa using h
    have c0:=hi.i0
    have g1:=hx.get i.toNat
    have g2:=hy.get i.toNat
    obtain ⟨d,hd⟩:∃ d,d=(xs.getD i.toNat 0 - ys.getD i.toNat 0 - b) % 4294967296:=⟨_,rfl⟩
    obtain ⟨b',hb'⟩:∃ d,d = - ((xs.getD i.toNat 0 - ys.getD i.toNat 0 - b) / 4294967296):=⟨_,rfl⟩
    have q:=hi.step hx hy hlt hd hb'
    have hc:=sub32_con _ _ _ _ _ g1.1 g1.2 g2.1 g2.2 hi.b0 hi.b1 hd hb'
    obtain ⟨i',hi'⟩:∃ j,j=i+1:=⟨_,rfl⟩
    obtain ⟨o',ho'⟩:∃ j,j=o.set i.toNat d:=⟨_,rfl⟩
    obtain ⟨x,hxx⟩:∃ j,j=xs.getD i.toNat 0:=⟨_,rfl⟩
    obtain ⟨y,hyy⟩:∃ j,j=ys.getD i.toNat 0:=⟨_,rfl⟩
    rw [<-hi',<-ho'] at q
    rw [<-hxx,<-hyy] at hc
    have hxi:std.get Int xs i 0=x:=hxx.symm
    have hyi:std.get Int ys i 0=y:=hyy.symm
    have hii:std.ib .add .i64 i 1=i':=by
     have hlt:i < (xs.length:Int):=hlt
     rw [s_add,w64 (by omega) (by omega),hi']
    have hrow:std.set Int o i d=o':=ho'.symm
    clear hd hb' hxx hyy
    cbv
    refine ⟨by subst hE; exact ⟨c0,h3'⟩,?_⟩
    cbv
    refine CallTo.con hP hE hc (by subst hE; refine ⟨?_,?_,?_,trivial⟩<;>first | exact congrArg (Value.int .u32) hxi | exact congrArg (Value.int .u32) hyi | rfl | exact congrArg (Value.int .u32) hyz.symm) ?_
    cbv
    refine ⟨by subst hE; exact ⟨c0,hlt⟩,?_⟩
    cbv
    refine ⟨(i',b',o'),[0,1,2],q,by have hlt:i < (xs.length:Int):=hlt; show ((xs.length:Int) - i').toNat < ((xs.length:Int) - i).toNat; omega,?_⟩
    cbv
    subst hE
    and_intros
    all_goals first
     | exact Sm.of hrow
     | exact vi hii
     | (simp; done)
   ·have hy0:ys.getD i.toNat 0=0:=by
     subst hE
     have h:std.ic .lss i (std.len Int ys)=false:=h3
     have h:¬ i < (ys.length:Int):=by simpa using h
     exact getD_ge (by have:=hi.i0; omega)
    have c0:=hi.i0
    have g1:=hx.get i.toNat
    have g2:=hy.get i.toNat
    obtain ⟨d,hd⟩:∃ d,d=(xs.getD i.toNat 0 - ys.getD i.toNat 0 - b) % 4294967296:=⟨_,rfl⟩
    obtain ⟨b',hb'⟩:∃ d,d = - ((xs.getD i.toNat 0 - ys.getD i.toNat 0 - b) / 4294967296):=⟨_,rfl⟩
    have q:=hi.step hx hy hlt hd hb'
    have hc:=sub32_con _ _ _ _ _ g1.1 g1.2 g2.1 g2.2 hi.b0 hi.b1 hd hb'
    obtain ⟨i',hi'⟩:∃ j,j=i+1:=⟨_,rfl⟩
    obtain ⟨o',ho'⟩:∃ j,j=o.set i.toNat d:=⟨_,rfl⟩
    obtain ⟨x,hxx⟩:∃ j,j=xs.getD i.toNat 0:=⟨_,rfl⟩
    obtain ⟨y,hyy⟩:∃ j,j=ys.getD i.toNat 0:=⟨_,rfl⟩
    rw [<-hi',<-ho'] at q
    rw [<-hxx,<-hyy] at hc
    have hxi:std.get Int xs i 0=x:=hxx.symm
    have hyi:std.get Int ys i 0=y:=hyy.symm
    have hii:std.ib .add .i64 i 1=i':=by
     have hlt:i < (xs.length:Int):=hlt
     rw [s_add,w64 (by omega) (by omega),hi']
    have hrow:std.set Int o i d=o':=ho'.symm
    clear hd hb' hxx hyy
    cbv
    have hyz:y=0:=by rw [<-hyi]; exact hy0
    refine CallTo.con hP hE hc (by subst hE; refine ⟨?_,?_,?_,trivial⟩<;>first | exact congrArg (Value.int .u32) hxi | exact congrArg (Value.int .u32) hyi | rfl | exact congrArg (Value.int .u32) hyz.symm) ?_
    cbv
    refine ⟨by subst hE; exact ⟨c0,hlt⟩,?_⟩
    cbv
    refine ⟨(i',b',o'),[0,1,2],q,by have hlt:i < (xs.length:Int):=hlt; show ((xs.length:Int) - i').toNat < ((xs.length:Int) - i).toNat; omega,?_⟩
    cbv
    subst hE
    and_intros
    all_goals first
     | exact Sm.of hrow
     | exact vi hii
     | (simp; done)
  ·have he:i=xs.length:=by
    subst hE
    have h:std.ic .lss i (std.len Int xs)=false:=h2
    have h:¬ i < (xs.length:Int):=by simpa using h
    have:=hi.i1
    omega
   have q:=hi.last he hl hv
   have hc:=trim_con o (by rw [hi.len]; omega)
   obtain ⟨n,hn⟩:∃ n,n=tlen o:=⟨_,rfl⟩
   rw [<-hn] at hc
   have hrow:std.tk Int o xs.length=o:=by
    rw [s_tk,List.take_of_length_le (by rw [hi.len]; omega)]
   have hres:std.tk Int o n=r:=by
    rw [s_tk,hn,Int.toNat_natCast,take_tlen hi.ok,q,hr]
   cbv
   refine CallTo.con hP hE hc ?_ ?_
   ·subst hE
    exact ⟨Sm.of hrow,trivial⟩
   ·cbv
    subst hE
    exact Sm.of hres
theorem minus_con (a b:Nat) (ha:(lb a).length<=137438953472) (h:b<=a):Con Tryz.prog 219 [.ro cU (lb a),.ro cU (lb b)] (.own 195 cU (lb (a - b))):=
 minus_core _ _ _ (lb_ok a) (lb_ok b) ha (by
  refine Decidable.byContradiction fun c=>?_
  have:=cmp_len (a:=a) (b:=b) (by omega)
  omega) (by rw [val_lb,val_lb]; omega) (by rw [val_lb,val_lb]; congr 1; omega)
structure TInv (X Y:List Int) (i:Int) (o:List Int):Prop where
 i0:0<=i
 i1:i<=X.length
 len:o.length=X.length+Y.length
 ok:Ok32 o
 z:∀ j,i.toNat+Y.length<=j->o.getD j 0=0
 v:val o=val (X.take i.toNat)*val Y
structure UInv (X Y:List Int) (i:Int) (V:Int) (k c:Int) (o:List Int):Prop where
 i0:0<=i
 i1:i < X.length
 k0:0<=k
 k1:k<=Y.length
 len:o.length=X.length+Y.length
 ok:Ok32 o
 z:∀ j,i.toNat+Y.length<=j->o.getD j 0=0
 c0:0<=c
 c1:c < 4294967296
 v:val o+c*4294967296 ^ (i.toNat+k.toNat)=V+X.getD i.toNat 0*4294967296 ^ i.toNat*val (Y.take k.toNat)
theorem TInv.zero {X Y:List Int} {i:Int} {o:List Int} (hi:i=0) (ho:o=List.replicate (X.length+Y.length) 0):TInv X Y i o:=by
 subst hi; subst ho
 exact ⟨by omega,by omega,by simp,.rep _,fun j _=>rep_getD _ _,by rw [val_rep]; simp [val]⟩
theorem UInv.zero {X Y:List Int} {i k:Int} {o:List Int} (h:TInv X Y i o) (hi:i < X.length) (hk:k=0):UInv X Y i (val o) k k o:=by
 subst hk
 exact ⟨h.i0,hi,by omega,by omega,h.len,h.ok,h.z,by omega,by omega,by simp [val]⟩
theorem prod_lt {x y:Int} (x0:0<=x) (x1:x < 4294967296) (y0:0<=y) (y1:y < 4294967296):0<=x*y/\x*y<=18446744065119617025:=by
 refine ⟨Int.mul_nonneg x0 y0,?_⟩
 have h1:x*y<=4294967295*y:=Int.mul_le_mul_of_nonneg_right (by omega) y0
 omega
theorem UInv.step {X Y:List Int} (hX:Ok32 X) (hY:Ok32 Y) {i V k c s:Int} {o:List Int} (h:UInv X Y i V k c o) (hk:k < Y.length) (hs:s=c+(X.getD i.toNat 0*Y.getD k.toNat 0+o.getD (i+k).toNat 0)) :
  0<=s/\s < 18446744073709551616/\UInv X Y i V (k+1) (s / 4294967296) (o.set (i+k).toNat (s % 4294967296)):=by
 have hx:=hX.get i.toNat
 have hy:=hY.get k.toNat
 have ho:=h.ok.get (i+k).toNat
 have hc0:=h.c0
 have hc1:=h.c1
 have hi0:=h.i0
 have hi1:=h.i1
 have hk0:=h.k0
 have hp:=prod_lt hx.1 hx.2 hy.1 hy.2
 have e:(k+1).toNat=k.toNat+1:=by omega
 have e2:(i+k).toNat=i.toNat+k.toNat:=by omega
 have hlt:(i+k).toNat < o.length:=by rw [h.len]; omega
 have hs0:0<=s:=by omega
 have hs1:s < 18446744073709551616:=by omega
 refine ⟨hs0,hs1,⟨h.i0,h.i1,by omega,by omega,by rw [List.length_set,h.len],h.ok.set (by omega) (by omega) _,fun j hj=>?_,by omega,by omega,?_⟩⟩
 ·rw [getD_set hlt,if_neg (by omega)]
  exact h.z j hj
 ·have hv:=h.v
  rw [val_set _ _ _ hlt,e,val_take_succ,<-Nat.add_assoc,Int.pow_succ]
  rw [e2] at hs ⊢
  have hs2:s=s % 4294967296+4294967296*(s / 4294967296):=by omega
  have hpw:(4294967296:Int) ^ (i.toNat+k.toNat)=4294967296 ^ i.toNat*4294967296 ^ k.toNat:=Int.pow_add _ _ _
  rw [hpw] at hv ⊢
  generalize s / 4294967296=q at *
  generalize s % 4294967296=m at *
  generalize o.getD (i.toNat+k.toNat) 0=u at *
  generalize X.getD i.toNat 0=x at *
  generalize Y.getD k.toNat 0=y at *
  generalize (4294967296:Int) ^ i.toNat=p at *
  generalize (4294967296:Int) ^ k.toNat=p' at *
  generalize val (Y.take k.toNat)=w at *
  have:m=c+(x*y+u) - 4294967296*q:=by omega
  rw [this]
  grind
theorem UInv.last {X Y:List Int} {i k c:Int} {o0 o:List Int} (h0:TInv X Y i o0) (h:UInv X Y i (val o0) k c o) (hk:k=Y.length):TInv X Y (i+1) (o.set (i+Y.length).toNat c):=by
 have hi0:=h.i0
 have hi1:=h.i1
 have e:(i+1).toNat=i.toNat+1:=by omega
 have e2:(i+Y.length).toNat=i.toNat+Y.length:=by omega
 have hlt:(i+Y.length).toNat < o.length:=by rw [h.len]; omega
 refine ⟨by omega,by omega,by rw [List.length_set,h.len],h.ok.set h.c0 h.c1 _,fun j hj=>?_,?_⟩
 ·rw [getD_set hlt,if_neg (by omega)]
  exact h.z j (by omega)
 ·have hv:=h.v
  have hv0:=h0.v
  rw [List.take_of_length_le (by omega)] at hv
  have hkk:k.toNat=Y.length:=by omega
  rw [hkk] at hv
  rw [val_set _ _ _ hlt,e,val_take_succ,e2,h.z _ (Nat.le_refl _)]
  generalize X.getD i.toNat 0=x at *
  generalize (4294967296:Int) ^ i.toNat=p at *
  generalize (4294967296:Int) ^ (i.toNat+Y.length)=p' at *
  grind
theorem times_core (xs ys r:List Int) (hx:Ok32 xs) (hy:Ok32 ys) (ha:xs.length<=137438953472) (hb:ys.length<=137438953472) (hlen:xs.length+ys.length<=137438953472) (hr:r=lb (val xs*val ys).toNat):Con Tryz.prog 211 [.ro cU xs,.ro cU ys] (.own 195 cU r):=by
 refine Con.of ttOk mixed Tryz.func211 {} .nil 0 (by kernel_rfl) (fun P' E hP hE=>?_)
 have hsum:std.ib .add .i64 (std.len Int xs) (std.len Int ys)=(xs.length:Int)+(ys.length:Int):=by
  rw [s_add,s_len,s_len,w64 (by omega) (by omega)]
 have hmk:std.rng 0 (std.ib .add .i64 (std.len Int xs) (std.len Int ys)) (std.ib .add .i64 (std.len Int xs) (std.len Int ys))/\std.fits (std.ib .add .i64 (std.len Int xs) (std.len Int ys)) 4:=by
  rw [hsum,s_rng,s_fits]; omega
 obtain ⟨i0,hi0⟩:∃ i:Int,i=0:=⟨_,rfl⟩
 obtain ⟨o0,ho0⟩:∃ b:List Int,b=List.replicate (xs.length+ys.length) 0:=⟨_,rfl⟩
 have hrep:std.rep Int (std.ib .add .i64 (std.len Int xs) (std.len Int ys)) 0=o0:=by
  have e:((xs.length:Int)+(ys.length:Int)).toNat=xs.length+ys.length:=by omega
  rw [hsum,s_rep,e,ho0]
 cbv
 refine ⟨by subst hE; exact hmk,?_⟩
 cbv
 refine LoopTo.by (ι:=Int × List Int) (fun x=>[(19,.v (.int .i64 x.1))]) (fun x=>[(2,.row true 195 cU x.2)]) (fun x=>TInv xs ys x.1 x.2) (fun x=>(xs.length - x.1).toNat) (i0,o0) [] (TInv.zero hi0 ho0) ?_ ?_
 ·cbv
  subst hE
  and_intros
  all_goals first
   | exact Sm.of hrep
   | exact congrArg (Value.int _) hi0.symm
   | (simp; done)
 ·rintro ⟨i,o⟩ hi
  have hi:TInv xs ys i o:=hi
  cbv
  refine ⟨fun h2=>?_,fun h2=>?_⟩
  ·have hlt:i < xs.length:=by
    subst hE
    have h:std.ic .lss i (std.len Int xs)=true:=h2
    simpa using h
   have hi00:=hi.i0
   obtain ⟨k0,hk0⟩:∃ i:Int,i=0:=⟨_,rfl⟩
   have hu:=UInv.zero hi hlt hk0
   cbv
   refine ⟨by subst hE; exact ⟨hi00,hlt⟩,?_⟩
   cbv
   refine LoopTo.by (ι:=Int × Int × List Int) (fun x=>[(26,.v (.int .i64 x.1)),(8,.v (.int .u64 x.2.1))]) (fun x=>[(2,.row true 195 cU x.2.2)]) (fun x=>UInv xs ys i (val o) x.1 x.2.1 x.2.2) (fun x=>(ys.length - x.1).toNat) (k0,k0,o) [] hu ?_ ?_
   ·cbv
    subst hE
    and_intros
    all_goals first
     | exact congrArg (Value.int _) hk0.symm
     | (simp; done)
   ·rintro ⟨k,c,u⟩ hk
    have hk:UInv xs ys i (val o) k c u:=hk
    cbv
    refine ⟨fun h3=>?_,fun h3=>?_⟩
    ·have hlt3:k < ys.length:=by
      subst hE
      have h:std.ic .lss k (std.len Int ys)=true:=h3
      simpa using h
     have hkk:=hk.k0
     obtain ⟨q1,q2,q3⟩:=hk.step hx hy hlt3 rfl
     have hik:std.ib .add .i64 i k=i+k:=by
      have hlt:i < (xs.length:Int):=hlt
      have hlt3:k < (ys.length:Int):=hlt3
      rw [s_add,w64 (by omega) (by omega)]
     have hin:std.inb (std.ib .add .i64 i k) (std.ib .add .i64 (std.len Int xs) (std.len Int ys)):=by
      have hlt:i < (xs.length:Int):=hlt
      have hlt3:k < (ys.length:Int):=hlt3
      have hsum:std.ib .add .i64 (std.len Int xs) (std.len Int ys)=(xs.length:Int)+(ys.length:Int):=hsum
      rw [hik,hsum,s_inb]; omega
     have e1:std.ib .add .u64 c (std.ib .add .u64 (std.ib .mul .u64 (std.cv .u64 (std.get Int xs i 0)) (std.cv .u64 (std.get Int ys k 0))) (std.cv .u64 (std.get Int u (std.ib .add .i64 i k) 0)))=c+(xs.getD i.toNat 0*ys.getD k.toNat 0+u.getD (i+k).toNat 0):=by
      have g1:=hx.get i.toNat
      have g2:=hy.get k.toNat
      have g3:=hk.ok.get (i+k).toNat
      have g4:=prod_lt g1.1 g1.2 g2.1 g2.2
      have:=hk.c0
      have:=hk.c1
      rw [hik,s_cv,s_cv,s_cv,s_get,s_get,s_get,wu64 (n:=xs.getD i.toNat 0) (by omega) (by omega),wu64 (n:=ys.getD k.toNat 0) (by omega) (by omega),wu64 (n:=u.getD (i+k).toNat 0) (by omega) (by omega),s_mul,wu64 g4.1 (by omega),s_add,s_add,wu64 (n:=xs.getD i.toNat 0*ys.getD k.toNat 0+u.getD (i+k).toNat 0) (by omega) (by omega),wu64 (by omega) (by omega)]
     generalize c+(xs.getD i.toNat 0*ys.getD k.toNat 0+u.getD (i+k).toNat 0)=s at q1 q2 q3 e1
     obtain ⟨k',hk'⟩:∃ j,j=k+1:=⟨_,rfl⟩
     obtain ⟨c',hc'⟩:∃ j,j=s / 4294967296:=⟨_,rfl⟩
     obtain ⟨u',hu'⟩:∃ j,j=u.set (i+k).toNat (s % 4294967296):=⟨_,rfl⟩
     rw [<-hk',<-hc',<-hu'] at q3
     have hkw:std.ib .add .i64 k 1=k':=by
      have hlt3:k < (ys.length:Int):=hlt3
      rw [s_add,w64 (by omega) (by omega),hk']
     have hcc:std.ib .shr .u64 (std.ib .add .u64 c (std.ib .add .u64 (std.ib .mul .u64 (std.cv .u64 (std.get Int xs i 0)) (std.cv .u64 (std.get Int ys k 0))) (std.cv .u64 (std.get Int u (std.ib .add .i64 i k) 0)))) 32=c':=by
      rw [e1,s_shr,hc']
      exact Int.fdiv_eq_ediv_of_nonneg _ (by decide)
     have hrow:std.set Int u (std.ib .add .i64 i k) (std.cv .u32 (std.ib .add .u64 c (std.ib .add .u64 (std.ib .mul .u64 (std.cv .u64 (std.get Int xs i 0)) (std.cv .u64 (std.get Int ys k 0))) (std.cv .u64 (std.get Int u (std.ib .add .i64 i k) 0)))))=u':=by
      rw [e1,hik,s_set,s_cv,IntKind.wrap_u32,hu']
     cbv
     refine ⟨by subst hE; exact ⟨hkk,hlt3⟩,?_⟩
     cbv
     refine ⟨by subst hE; exact hin,?_⟩
     cbv
     refine ⟨by subst hE; exact hin,?_⟩
     cbv
     refine ⟨by subst hE; simp,?_⟩
     cbv
     refine ⟨(k',c',u'),[0,1,2],q3,by have hlt3:k < (ys.length:Int):=hlt3; show ((ys.length:Int) - k').toNat < ((ys.length:Int) - k).toNat; omega,?_⟩
     cbv
     subst hE
     and_intros
     all_goals first
      | exact Sm.of hrow
      | exact vi hkw
      | exact congrArg (fun x=>AV.v (Value.int .u64 x)) hcc
      | (simp; done)
    ·have he3:k=ys.length:=by
      subst hE
      have h:std.ic .lss k (std.len Int ys)=false:=h3
      have h:¬ k < (ys.length:Int):=by simpa using h
      have:=hk.k1
      omega
     have hil:std.ib .add .i64 i (std.len Int ys)=i+ys.length:=by
      have hlt:i < (xs.length:Int):=hlt
      rw [s_add,s_len,w64 (by omega) (by omega)]
     have hin:std.inb (std.ib .add .i64 i (std.len Int ys)) (std.ib .add .i64 (std.len Int xs) (std.len Int ys)):=by
      have hlt:i < (xs.length:Int):=hlt
      have hsum:std.ib .add .i64 (std.len Int xs) (std.len Int ys)=(xs.length:Int)+(ys.length:Int):=hsum
      rw [hil,hsum,s_inb]; omega
     have q:=UInv.last hi hk he3
     obtain ⟨i',hi'⟩:∃ j,j=i+1:=⟨_,rfl⟩
     obtain ⟨u',hu'⟩:∃ j,j=u.set (i+ys.length).toNat c:=⟨_,rfl⟩
     rw [<-hi',<-hu'] at q
     have hii:std.ib .add .i64 i 1=i':=by
      have hlt:i < (xs.length:Int):=hlt
      rw [s_add,w64 (by omega) (by omega),hi']
     have hrow:std.set Int u (std.ib .add .i64 i (std.len Int ys)) (std.cv .u32 c)=u':=by
      rw [hil,s_set,s_cv,wu32 hk.c0 hk.c1,hu']
     cbv
     refine ⟨by subst hE; exact hin,?_⟩
     cbv
     refine ⟨(i',u'),[0,1,2],q,by have hlt:i < (xs.length:Int):=hlt; show ((xs.length:Int) - i').toNat < ((xs.length:Int) - i).toNat; omega,?_⟩
     cbv
     subst hE
     and_intros
     all_goals first
      | exact Sm.of hrow
      | exact vi hii
      | (simp; done)
  ·have he:i=xs.length:=by
    subst hE
    have h:std.ic .lss i (std.len Int xs)=false:=h2
    have h:¬ i < (xs.length:Int):=by simpa using h
    have:=hi.i1
    omega
   have q:=hi.v
   have hc:=trim_con o (by rw [hi.len]; omega)
   obtain ⟨n,hn⟩:∃ n,n=tlen o:=⟨_,rfl⟩
   rw [<-hn] at hc
   have hto:((xs.length:Int)+(ys.length:Int)).toNat=xs.length+ys.length:=by omega
   have hrow:std.tk Int o (std.ib .add .i64 (std.len Int xs) (std.len Int ys))=o:=by
    rw [hsum,s_tk,List.take_of_length_le (by rw [hi.len]; exact Nat.le_of_eq hto.symm)]
   have hres:std.tk Int o n=r:=by
    rw [s_tk,hn,Int.toNat_natCast,take_tlen hi.ok,q,hr,List.take_of_length_le (by have he:i=(xs.length:Int):=he; omega)]
   cbv
   refine CallTo.con hP hE hc ?_ ?_
   ·subst hE
    exact ⟨Sm.of hrow,trivial⟩
   ·cbv
    subst hE
    exact Sm.of hres
theorem times_con (a b:Nat) (h:(lb a).length+(lb b).length<=137438953472):Con Tryz.prog 211 [.ro cU (lb a),.ro cU (lb b)] (.own 195 cU (lb (a*b))):=
 times_core _ _ _ (lb_ok a) (lb_ok b) (by omega) (by omega) h (by rw [val_lb,val_lb]; rfl)
structure SInv (X:List Int) (d i r:Int) (o:List Int):Prop where
 i0 : -1<=i
 i1:i < X.length
 len:o.length=X.length
 ok:Ok32 o
 z:∀ j:Nat,(j:Int)<=i->o.getD j 0=0
 r0:0<=r
 r1:r < d
 v:val (X.take (i+1).toNat)+val o*d+r*4294967296 ^ (i+1).toNat=val X
theorem SInv.zero {X:List Int} {d i r:Int} {o:List Int} (hd:0 < d) (hi:i=X.length - 1) (hr:r=0) (ho:o=List.replicate X.length 0):SInv X d i r o:=by
 subst hi; subst ho; subst hr
 refine ⟨by omega,by omega,by simp,.rep _,fun j _=>rep_getD _ _,by omega,hd,?_⟩
 rw [val_rep,List.take_of_length_le (by omega)]; simp
theorem SInv.step {X:List Int} (hX:Ok32 X) {d i r t:Int} {o:List Int} (hd:d < 4294967296) (h:SInv X d i r o) (hi:0<=i) (ht:t=r*4294967296+X.getD i.toNat 0) :
  SInv X d (i - 1) (t % d) (o.set i.toNat (t / d)):=by
 have hx:=hX.get i.toNat
 have h0:=h.r0
 have h1:=h.r1
 have hi1:=h.i1
 have e:(i - 1+1).toNat=i.toNat:=by omega
 have e2:(i+1).toNat=i.toNat+1:=by omega
 have hlt:i.toNat < o.length:=by rw [h.len]; omega
 have ht0:0<=t:=by omega
 have hq0:0<=t / d:=Int.ediv_nonneg ht0 (by omega)
 have hq1:t / d < 4294967296:=Int.ediv_lt_of_lt_mul (by omega) (by
  have h2:(r+1)*4294967296<=d*4294967296:=Int.mul_le_mul_of_nonneg_right (by omega) (by decide)
  rw [Int.mul_comm 4294967296]
  omega)
 refine ⟨by omega,by omega,by rw [List.length_set,h.len],h.ok.set hq0 hq1 _,fun j hj=>?_,Int.emod_nonneg _ (by omega),Int.emod_lt_of_pos _ (by omega),?_⟩
 ·rw [getD_set hlt,if_neg (by omega)]
  exact h.z j (by omega)
 ·have hv:=h.v
  rw [e2,val_take_succ,Int.pow_succ] at hv
  rw [val_set _ _ _ hlt,h.z _ (by omega),e]
  have hs:=Int.mul_ediv_add_emod t d
  generalize t / d=q at *
  generalize t % d=m at *
  generalize X.getD i.toNat 0=x at *
  generalize (4294967296:Int) ^ i.toNat=p at *
  grind
theorem SInv.last {X:List Int} {d i r:Int} {o:List Int} (h:SInv X d i r o) (hi:i = -1):val o=val X / d/\r=val X % d:=by
 have hv:=h.v
 have h0:=h.r0
 have h1:=h.r1
 subst hi
 have e:(-1+1:Int).toNat=0:=rfl
 rw [e] at hv
 simp [val] at hv
 have hd:0 < d:=by omega
 have:val X=r+d*val o:=by rw [<-hv,Int.mul_comm]; omega
 rw [this]
 constructor
 ·rw [Int.add_mul_ediv_left _ _ (by omega),Int.ediv_eq_zero_of_lt h0 h1]; omega
 ·rw [Int.add_mul_emod_self_left,Int.emod_eq_of_lt h0 h1]
theorem short_core (xs q:List Int) (d r:Int) (hx:Ok32 xs) (ha:xs.length<=137438953472) (hd0:0 < d) (hd1:d < 4294967296) (hq:q=lb (val xs / d).toNat) (hr:r=val xs % d):Con Tryz.prog 316 [.ro cU xs,.v (.int .u32 d)] (.tup [.own 195 cU q,.v (.int .u32 r)]):=by
 refine Con.of ttOk mixed Tryz.func316 {} .nil 0 (by kernel_rfl) (fun P' E hP hE=>?_)
 have hmk:∀ X:List Int,X.length<=137438953472->std.rng 0 (std.len Int X) (std.len Int X)/\std.fits (std.len Int X) 4:=by
  intro X h
  rw [s_len,s_rng,s_fits]; omega
 obtain ⟨i0,hi0⟩:∃ i:Int,i=xs.length - 1:=⟨_,rfl⟩
 obtain ⟨r0,hr0⟩:∃ i:Int,i=0:=⟨_,rfl⟩
 obtain ⟨o0,ho0⟩:∃ b:List Int,b=List.replicate xs.length 0:=⟨_,rfl⟩
 have hii:std.ib .sub .i64 (std.len Int xs) 1=i0:=by
  rw [s_sub,s_len,w64 (by omega) (by omega),hi0]
 have hrep:std.rep Int (std.len Int xs) 0=o0:=by rw [s_rep,s_len,Int.toNat_natCast,ho0]
 have hz:=SInv.zero hd0 hi0 hr0 ho0
 clear hi0 ho0
 cbv
 refine ⟨by subst hE; exact hmk xs ha,?_⟩
 cbv
 refine LoopTo.by (ι:=Int × Int × List Int) (fun x=>[(8,.v (.int .i64 x.1)),(7,.v (.int .u32 x.2.1))]) (fun x=>[(2,.row true 195 cU x.2.2)]) (fun x=>SInv xs d x.1 x.2.1 x.2.2) (fun x=>(x.1+1).toNat) (i0,r0,o0) [] hz ?_ ?_
 ·cbv
  subst hE
  and_intros
  all_goals first
   | exact Sm.of hrep
   | exact congrArg (Value.int _) hr0.symm
   | exact vi hii
   | (simp; done)
 ·rintro ⟨i,b,o⟩ hi
  have hi:SInv xs d i b o:=hi
  cbv
  refine ⟨fun h2=>?_,fun h2=>?_⟩
  ·have hge:0<=i:=by
    subst hE
    have h:std.ic .geq i 0=true:=h2
    simpa using h
   have hlt:=hi.i1
   have hst:=hi.step hx hd1 hge rfl
   obtain ⟨x,hxx⟩:∃ j,j=xs.getD i.toNat 0:=⟨_,rfl⟩
   have g:=hx.get i.toNat
   rw [<-hxx] at hst g
   have hxi:std.get Int xs i 0=x:=hxx.symm
   obtain ⟨y,hy⟩:∃ j,j=(b*4294967296+x) / d:=⟨_,rfl⟩
   obtain ⟨b',hb'⟩:∃ j,j=(b*4294967296+x) % d:=⟨_,rfl⟩
   have hc:=div32_con b x d y b' hi.r0 hi.r1 g.1 g.2 hd1 hy hb'
   rw [<-hy,<-hb'] at hst
   obtain ⟨o',ho'⟩:∃ j,j=o.set i.toNat y:=⟨_,rfl⟩
   obtain ⟨i',hi'⟩:∃ j,j=i - 1:=⟨_,rfl⟩
   rw [<-hi',<-ho'] at hst
   have hiw:std.ib .sub .i64 i 1=i':=by
    rw [s_sub,w64 (by omega) (by omega),hi']
   have hrow:std.set Int o i y=o':=ho'.symm
   clear hy hb' hxx
   cbv
   refine ⟨by subst hE; exact ⟨hge,hlt⟩,?_⟩
   cbv
   refine CallTo.con hP hE hc (by subst hE; refine ⟨?_,?_,?_,trivial⟩<;>first | exact congrArg (Value.int .u32) hxi | rfl) ?_
   cbv
   refine ⟨by subst hE; exact ⟨hge,hlt⟩,?_⟩
   cbv
   refine ⟨(i',b',o'),[0,1,2],hst,by show (i'+1).toNat < (i+1).toNat; omega,?_⟩
   cbv
   subst hE
   and_intros
   all_goals first
    | exact Sm.of hrow
    | exact vi hiw
    | (simp; done)
  ·have he:i = -1:=by
    subst hE
    have h:std.ic .geq i 0=false:=h2
    have h:¬ 0<=i:=by simpa using h
    have:=hi.i0
    omega
   obtain ⟨q1,q2⟩:=hi.last he
   have hc:=trim_con o (by rw [hi.len]; omega)
   obtain ⟨n,hn⟩:∃ n,n=tlen o:=⟨_,rfl⟩
   rw [<-hn] at hc
   have hrow:std.tk Int o (std.len Int xs)=o:=by
    rw [s_tk,s_len,List.take_of_length_le (by rw [hi.len]; omega)]
   have hres:std.tk Int o n=q:=by
    rw [s_tk,hn,Int.toNat_natCast,take_tlen hi.ok,q1,hq]
   have hrr:b=r:=by rw [q2,hr]
   cbv
   refine CallTo.con hP hE hc ?_ ?_
   ·subst hE
    exact ⟨Sm.of hrow,trivial⟩
   ·cbv
    subst hE
    exact ⟨Sm.of hres,congrArg (Value.int .u32) hrr,trivial⟩
theorem short_con (a d:Nat) (h:(lb a).length<=137438953472) (h0:0 < d) (h1:d < 4294967296):Con Tryz.prog 316 [.ro cU (lb a),.v (.int .u32 d)] (.tup [.own 195 cU (lb (a / d)),.v (.int .u32 (a % d:Nat))]):=
 short_core _ _ _ _ (lb_ok a) h (by omega) (by omega) (by rw [val_lb]; rfl) (by rw [val_lb]; rfl)
end Go.Proofs.YtkipmmiiackdaaaGreat.Sx
