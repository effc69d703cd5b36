/- Part 24 of what the statement needs: an executor of Go texts, arithmetic, and contracts of the functions that are called. -/
import Derived.Test.YtkipmmiiackdaaaGreatCa12
import Derived.Test.YtkipmmiiackdaaaGreatCa13
import Derived.Test.YtkipmmiiackdaaaGreatCa14
import Derived.Test.YtkipmmiiackdaaaGreatCa19
import Derived.Test.YtkipmmiiackdaaaGreatCa20
set_option linter.unusedSimpArgs false
set_option linter.unusedVariables false
set_option maxHeartbeats 8000000
set_option maxRecDepth 100000
namespace Go.Proofs.YtkipmmiiackdaaaGreat.Sx
open Env (std)
/-- The value of a row of digits, the greatest one first. -/
def bval:List Int->Int
 | []=>0
 | x::xs=>x*256 ^ xs.length+bval xs
def Ok8 (xs:List Int):Prop:=∀ x ∈ xs,0<=x/\x < 256
theorem Ok8.tail {x:Int} {xs:List Int} (h:Ok8 (x::xs)):Ok8 xs:=fun y hy=>h y (by simp [hy])
theorem Ok8.head {x:Int} {xs:List Int} (h:Ok8 (x::xs)):0<=x/\x < 256:=h x (by simp)
theorem Ok8.get {xs:List Int} (h:Ok8 xs) (i:Nat):0<=xs.getD i 0/\xs.getD i 0 < 256:=by
 rw [List.getD_eq_getElem?_getD]
 cases e:xs[i]? with
 | none=>simp
 | some x=>simp; exact h x (List.mem_of_getElem? e)
theorem Ok8.set {xs:List Int} (h:Ok8 xs) {x:Int} (h0:0<=x) (h1:x < 256) (i:Nat):Ok8 (xs.set i x):=by
 intro y hy
 rcases List.mem_or_eq_of_mem_set hy with hy | rfl
 ·exact h y hy
 ·exact ⟨h0,h1⟩
theorem Ok8.drop {xs:List Int} (h:Ok8 xs) (n:Nat):Ok8 (xs.drop n):=fun y hy=>h y (List.mem_of_mem_drop hy)
theorem Ok8.rep (n:Nat):Ok8 (List.replicate n 0):=fun y hy=>by rw [(List.mem_replicate.1 hy).2]; decide
theorem pow256_pos (j:Nat):(0:Int) < 256 ^ j:=Int.pow_pos (by decide)
theorem bval_nonneg:∀ {xs:List Int},Ok8 xs->0<=bval xs
 | [],_=>by simp [bval]
 | x::xs,h=>by
  have h1:=bval_nonneg h.tail
  have h2:=Int.mul_nonneg h.head.1 (Int.le_of_lt (pow256_pos xs.length))
  simp only [bval]; omega
theorem bval_lt:∀ {xs:List Int},Ok8 xs->bval xs < 256 ^ xs.length
 | [],_=>by simp [bval]
 | x::xs,h=>by
  have h1:=bval_lt h.tail
  have h2:=h.head
  have h3:x*256 ^ xs.length<=255*256 ^ xs.length:=Int.mul_le_mul_of_nonneg_right (by omega) (Int.le_of_lt (pow256_pos _))
  simp only [bval,List.length_cons,Int.pow_succ]
  omega
theorem bval_rep:∀ n:Nat,bval (List.replicate n 0)=0
 | 0=>rfl
 | n+1=>by simp [List.replicate_succ,bval,bval_rep n]
theorem bval_append:∀ (xs ys:List Int),bval (xs++ys)=bval xs*256 ^ ys.length+bval ys
 | [],ys=>by simp [bval]
 | x::xs,ys=>by
  simp only [List.cons_append,bval,bval_append xs ys,List.length_append,Int.pow_add]
  grind
theorem bval_set:∀ (xs:List Int) (j:Nat) (v:Int),j < xs.length->bval (xs.set j v)=bval xs+(v - xs.getD j 0)*256 ^ (xs.length - 1 - j)
 | [],j,v,h=>by simp at h
 | x::xs,0,v,_=>by
  simp only [List.set_cons_zero,bval,List.length_cons,List.getD_cons_zero,Nat.sub_zero,Nat.add_sub_cancel]
  grind
 | x::xs,j+1,v,h=>by
  have h':j < xs.length:=by simpa using h
  simp only [List.set_cons_succ,bval,List.length_cons,List.getD_cons_succ,List.length_set,bval_set xs j v h']
  have e:xs.length+1 - 1 - (j+1)=xs.length - 1 - j:=by omega
  rw [e]
  omega
theorem toU8 {x:Int} (h0:0<=x) (h1:x < 256):(UInt8.ofNat x.toNat).toNat=x.toNat:=by
 rw [UInt8.toNat_ofNat']
 omega
theorem dv_by8:∀ {xs:List Int},Ok8 xs->((dv (by8 xs):Nat):Int)=bval xs
 | [],_=>rfl
 | x::xs,h=>by
  have h1:=dv_by8 h.tail
  have h2:=h.head
  show ((dv (UInt8.ofNat x.toNat::by8 xs):Nat):Int)=_
  rw [dv_cons,toU8 h2.1 h2.2]
  have e:(by8 xs).length=xs.length:=by simp [by8]
  rw [e,bval,<-h1,Int.natCast_add,Int.natCast_mul,Int.toNat_of_nonneg h2.1,Int.natCast_pow]
  rfl
/-- The digit of weight 256 ^ j. -/
def dig8 (n:Nat) (j:Nat):Nat:=n / 256 ^ j % 256
theorem dig8_lt (n j:Nat):dig8 n j < 256:=Nat.mod_lt _ (by decide)
theorem mod8_succ (n j:Nat):n % 256 ^ (j+1)=n % 256 ^ j+256 ^ j*dig8 n j:=Nat.mod_pow_succ
theorem dig8_zero {n j k:Nat} (h:n < 256 ^ k) (hj:k<=j):dig8 n j=0:=by
 unfold dig8
 rw [Nat.div_eq_of_lt (Nat.lt_of_lt_of_le h (Nat.pow_le_pow_right (by decide) hj))]
theorem dig8_at {l:List UInt8} {j:Nat} (h:j < l.length):(l.getD (l.length - 1 - j) 0).toNat=dig8 (dv l) j:=(digit_at h).symm
/-- addMag: j digits of the sum are written. -/
structure RaInv (A B:Nat) (n:Nat) (j:Nat) (c:Int) (o:List Int):Prop where
 j1:j<=n
 len:o.length=n
 ok:Ok8 o
 c0:0<=c
 c1:c<=1
 v:bval (o.drop (n - j))+c*((256 ^ j:Nat):Int)=((A % 256 ^ j+B % 256 ^ j:Nat):Int)
theorem RaInv.zero (A B n:Nat):RaInv A B n 0 0 (List.replicate n 0):=by
 refine ⟨Nat.zero_le _,by simp,Ok8.rep n,by decide,by decide,?_⟩
 rw [List.drop_eq_nil_of_le (by simp)]
 simp [bval,Nat.mod_one]
theorem drop_set_at {o:List Int} {n j:Nat} {x:Int} (hl:o.length=n) (hj:j < n):(o.set (n - (j+1)) x).drop (n - (j+1))=x::o.drop (n - j):=by
 have e:n - j=n - (j+1)+1:=by omega
 rw [List.drop_eq_getElem_cons (by rw [List.length_set]; omega),List.getElem_set_self,List.drop_set,if_pos (by omega),e]
theorem RaInv.step {A B n j:Nat} {c s:Int} {o:List Int} (h:RaInv A B n j c o) (hj:j < n) (hs:s=c+dig8 A j+dig8 B j):RaInv A B n (j+1) (s / 256) (o.set (n - (j+1)) (s % 256)):=by
 have h1:=dig8_lt A j
 have h2:=dig8_lt B j
 have h3:=h.c0
 have h4:=h.c1
 refine ⟨by omega,by rw [List.length_set,h.len],h.ok.set (by omega) (by omega) _,by omega,by omega,?_⟩
 rw [drop_set_at h.len hj,mod8_succ,mod8_succ,bval]
 have hv:=h.v
 have e1:(o.drop (n - j)).length=j:=by rw [List.length_drop,h.len]; omega
 rw [e1]
 have e2:((256 ^ (j+1):Nat):Int)=256*((256 ^ j:Nat):Int):=by rw [Nat.pow_succ]; omega
 have e3:(256:Int) ^ j=((256 ^ j:Nat):Int):=by rw [Int.natCast_pow]; rfl
 rw [e2,e3]
 generalize ((256 ^ j:Nat):Int)=p at *
 have e4:s % 256+256*(s / 256)=s:=Int.emod_add_mul_ediv s 256
 have e5:s % 256*p+s / 256*(256*p)=s*p:=by
  rw [<-e4]; grind
 simp only [Int.natCast_add,Int.natCast_mul] at hv ⊢
 have e6:s*p=c*p+dig8 A j*p+dig8 B j*p:=by rw [hs]; grind
 grind
theorem RaInv.last {A B n:Nat} {c:Int} {o:List Int} (h:RaInv A B n n c o) (hA:256*A < 256 ^ n) (hB:256*B < 256 ^ n):bval o=((A+B:Nat):Int):=by
 have hv:=h.v
 rw [Nat.sub_self,List.drop_zero,Nat.mod_eq_of_lt (by omega),Nat.mod_eq_of_lt (by omega)] at hv
 have h0:=h.c0
 have h1:=h.c1
 have hb:=bval_nonneg h.ok
 have:c=0:=by
  refine Decidable.byContradiction fun hc=>?_
  have:c=1:=by omega
  rw [this,Int.one_mul] at hv
  omega
 rw [this,Int.zero_mul,Int.add_zero] at hv
 exact hv
/-- subMag: j digits of the difference are written. -/
structure RdInv (A B:Nat) (n:Nat) (j:Nat) (c:Int) (o:List Int):Prop where
 j1:j<=n
 len:o.length=n
 ok:Ok8 o
 c0:0<=c
 c1:c<=1
 v:bval (o.drop (n - j))=((A % 256 ^ j:Nat):Int) - ((B % 256 ^ j:Nat):Int)+c*((256 ^ j:Nat):Int)
theorem RdInv.zero (A B n:Nat):RdInv A B n 0 0 (List.replicate n 0):=by
 refine ⟨Nat.zero_le _,by simp,Ok8.rep n,by decide,by decide,?_⟩
 rw [List.drop_eq_nil_of_le (by simp)]
 simp [bval,Nat.mod_one]
theorem RdInv.step {A B n j:Nat} {c c' s d:Int} {o:List Int} (h:RdInv A B n j c o) (hj:j < n) (hs:s=dig8 A j - c - dig8 B j) (hd:d=if s < 0 then s+256 else s) (hc:c'=if s < 0 then 1 else 0):RdInv A B n (j+1) c' (o.set (n - (j+1)) d):=by
 have h1:=dig8_lt A j
 have h2:=dig8_lt B j
 have h3:=h.c0
 have h4:=h.c1
 have e0:d=s+256*c':=by rw [hd,hc]; split<;>omega
 refine ⟨by omega,by rw [List.length_set,h.len],h.ok.set (by rw [hd]; split<;>omega) (by rw [hd]; split<;>omega) _,by rw [hc]; split<;>omega,by rw [hc]; split<;>omega,?_⟩
 rw [drop_set_at h.len hj,mod8_succ,mod8_succ,bval]
 have hv:=h.v
 have e1:(o.drop (n - j)).length=j:=by rw [List.length_drop,h.len]; omega
 rw [e1]
 have e2:((256 ^ (j+1):Nat):Int)=256*((256 ^ j:Nat):Int):=by rw [Nat.pow_succ]; omega
 have e3:(256:Int) ^ j=((256 ^ j:Nat):Int):=by rw [Int.natCast_pow]; rfl
 rw [e2,e3,e0,hs]
 generalize ((256 ^ j:Nat):Int)=p at *
 simp only [Int.natCast_add,Int.natCast_mul] at hv ⊢
 grind
theorem RdInv.last {A B n:Nat} {c:Int} {o:List Int} (h:RdInv A B n n c o) (hA:A < 256 ^ n) (hB:B<=A):bval o=((A - B:Nat):Int):=by
 have hv:=h.v
 rw [Nat.sub_self,List.drop_zero,Nat.mod_eq_of_lt (by omega),Nat.mod_eq_of_lt (by omega)] at hv
 have h0:=h.c0
 have h1:=h.c1
 have hb:=bval_lt h.ok
 rw [h.len] at hb
 have e3:(256:Int) ^ n=((256 ^ n:Nat):Int):=by rw [Int.natCast_pow]; rfl
 rw [e3] at hb
 have:c=0:=by
  refine Decidable.byContradiction fun hc=>?_
  have:c=1:=by omega
  rw [this,Int.one_mul] at hv
  omega
 rw [this,Int.zero_mul,Int.add_zero] at hv
 omega
theorem dv_drop {l:List UInt8} {i:Nat} (h:i < l.length):dv (l.drop i)=(l.getD i 0).toNat*256 ^ (l.length - 1 - i)+dv (l.drop (i+1)):=by
 have e:l.drop i=l.getD i 0::l.drop (i+1):=by
  rw [List.drop_eq_getElem_cons h,List.getD_eq_getElem?_getD,List.getElem?_eq_getElem h]; rfl
 rw [e,dv_cons,List.length_drop]
 congr 3
 omega
/-- mulMag: the digits of A behind i are multiplied. -/
structure RoInv (A B:List UInt8) (i:Int) (o:List Int):Prop where
 i0 : -1<=i
 i1:i < A.length
 len:o.length=A.length+B.length
 ok:Ok8 o
 z:∀ p:Nat,(p:Int)<=i->o.getD p 0=0
 v:bval o=((dv (A.drop (i+1).toNat)*dv B:Nat):Int)
/-- .. and digit i by the digits of B behind k. -/
structure RqInv (A B:List UInt8) (i k c:Int) (o:List Int):Prop where
 i0:0<=i
 i1:i < A.length
 k0 : -1<=k
 k1:k < B.length
 len:o.length=A.length+B.length
 ok:Ok8 o
 c0:0<=c
 c1:c < 256
 z:∀ p:Nat,(p:Int)<=i->o.getD p 0=0
 v:bval o+c*((256 ^ (A.length+B.length - 1 - (i+k+1).toNat):Nat):Int)=((dv (A.drop (i+1).toNat)*dv B+(A.getD i.toNat 0).toNat*dv (B.drop (k+1).toNat)*256 ^ (A.length - 1 - i.toNat):Nat):Int)
theorem RoInv.zero (A B:List UInt8):RoInv A B ((A.length:Int) - 1) (List.replicate (A.length+B.length) 0):=by
 refine ⟨by omega,by omega,by simp,Ok8.rep _,fun p _=>rep_getD _ _,?_⟩
 rw [bval_rep,List.drop_eq_nil_of_le (by omega)]
 simp [dv]
theorem RqInv.zero {A B:List UInt8} {i:Int} {o:List Int} (h:RoInv A B i o) (hi:0<=i):RqInv A B i ((B.length:Int) - 1) 0 o:=by
 refine ⟨hi,h.i1,by omega,by omega,h.len,h.ok,by decide,by decide,h.z,?_⟩
 have e:B.drop ((B.length:Int) - 1+1).toNat=[]:=List.drop_eq_nil_of_le (by omega)
 rw [h.v,e]
 simp [dv]
theorem RqInv.step {A B:List UInt8} {i k c s:Int} {o:List Int} (h:RqInv A B i k c o) (hk:0<=k) (hs:s=c+(o.getD (i+k+1).toNat 0+(A.getD i.toNat 0).toNat*(B.getD k.toNat 0).toNat)) :
  0<=s/\s < 65536/\RqInv A B i (k - 1) (s / 256) (o.set (i+k+1).toNat (s % 256)):=by
 have h1:=h.c0
 have h2:=h.c1
 have h3:=h.ok.get (i+k+1).toNat
 have h4:(A.getD i.toNat 0).toNat < 256:=UInt8.toNat_lt _
 have h5:(B.getD k.toNat 0).toNat < 256:=UInt8.toNat_lt _
 have h6:((A.getD i.toNat 0).toNat:Int)*((B.getD k.toNat 0).toNat:Int)<=255*255:=by
  have:=Nat.mul_le_mul (show (A.getD i.toNat 0).toNat<=255 by omega) (show (B.getD k.toNat 0).toNat<=255 by omega)
  omega
 have h7:(0:Int)<=((A.getD i.toNat 0).toNat:Int)*((B.getD k.toNat 0).toNat:Int):=by
  have:=Nat.zero_le ((A.getD i.toNat 0).toNat*(B.getD k.toNat 0).toNat)
  omega
 have q1:=h.i0
 have q2:=h.i1
 have q3:=h.k1
 have q4:=h.len
 have s0:0<=s:=by omega
 have s1:s < 65536:=by omega
 refine ⟨s0,s1,h.i0,h.i1,by omega,by omega,by rw [List.length_set]; exact h.len,h.ok.set (by omega) (by omega) _,by omega,by omega,?_,?_⟩
 ·intro p hp
  rw [getD_set (by omega),if_neg (by omega)]
  exact h.z p hp
 ·have hv:=h.v
  rw [bval_set _ _ _ (by omega),q4]
  have e1:(i+(k - 1)+1).toNat=(i+k).toNat:=by congr 1; omega
  have e2:(k - 1+1).toNat=k.toNat:=by congr 1; omega
  have e3:A.length+B.length - 1 - (i+k).toNat=A.length+B.length - 1 - (i+k+1).toNat+1:=by omega
  have e4:(k+1).toNat=k.toNat+1:=by omega
  have e5:B.length - 1 - k.toNat+(A.length - 1 - i.toNat)=A.length+B.length - 1 - (i+k+1).toNat:=by omega
  rw [e1,e2,e3,dv_drop (by omega:k.toNat < B.length)]
  rw [e4] at hv
  have e6:(A.getD i.toNat 0).toNat*((B.getD k.toNat 0).toNat*256 ^ (B.length - 1 - k.toNat)+dv (B.drop (k.toNat+1)))*256 ^ (A.length - 1 - i.toNat)=(A.getD i.toNat 0).toNat*(B.getD k.toNat 0).toNat*256 ^ (A.length+B.length - 1 - (i+k+1).toNat)+(A.getD i.toNat 0).toNat*dv (B.drop (k.toNat+1))*256 ^ (A.length - 1 - i.toNat):=by
   rw [<-e5,Nat.pow_add]; grind
  rw [e6]
  have e7:(256:Int) ^ (A.length+B.length - 1 - (i+k+1).toNat)=((256 ^ (A.length+B.length - 1 - (i+k+1).toNat):Nat):Int):=by rw [Int.natCast_pow]; rfl
  rw [e7,Nat.pow_succ]
  generalize 256 ^ (A.length+B.length - 1 - (i+k+1).toNat)=p at *
  generalize (A.getD i.toNat 0).toNat=a at *
  generalize (B.getD k.toNat 0).toNat=b at *
  generalize a*dv (B.drop (k.toNat+1))*256 ^ (A.length - 1 - i.toNat)=w at *
  generalize dv (A.drop (i+1).toNat)*dv B=v at *
  generalize o.getD (i+k+1).toNat 0=x at *
  have e8:s % 256+256*(s / 256)=s:=Int.emod_add_mul_ediv s 256
  have e9:s % 256*(p:Int)+s / 256*((p:Int)*256)=s*p:=by
   have h9:(s % 256+256*(s / 256))*(p:Int)=s*p:=by rw [e8]
   grind
  simp only [Int.natCast_add,Int.natCast_mul] at hv hs ⊢
  have e10:s*(p:Int)=c*p+x*p+a*b*p:=by rw [hs]; grind
  grind
theorem RqInv.last {A B:List UInt8} {i c:Int} {o:List Int} (h:RqInv A B i (-1) c o):RoInv A B (i - 1) (o.set i.toNat (o.getD i.toNat 0+c)):=by
 have q1:=h.i0
 have q2:=h.i1
 have q4:=h.len
 have hz:=h.z i.toNat (by omega)
 rw [hz,Int.zero_add]
 refine ⟨by omega,by omega,by rw [List.length_set]; exact h.len,h.ok.set h.c0 h.c1 _,?_,?_⟩
 ·intro p hp
  rw [getD_set (by omega),if_neg (by omega)]
  exact h.z p (by omega)
 ·have hv:=h.v
  rw [bval_set _ _ _ (by omega),q4,hz]
  have e1:(i + -1+1).toNat=i.toNat:=by congr 1; omega
  have e2:(i - 1+1).toNat=i.toNat:=by congr 1; omega
  have e3:((-1:Int)+1).toNat=0:=rfl
  have e4:(i+1).toNat=i.toNat+1:=by omega
  rw [e1,e3,List.drop_zero,e4] at hv
  rw [e2,dv_drop (by omega:i.toNat < A.length)]
  have e7:(256:Int) ^ (A.length+B.length - 1 - i.toNat)=((256 ^ (A.length+B.length - 1 - i.toNat):Nat):Int):=by rw [Int.natCast_pow]; rfl
  rw [e7]
  simp only [Int.natCast_add,Int.natCast_mul] at hv ⊢
  grind
theorem RoInv.last {A B:List UInt8} {o:List Int} (h:RoInv A B (-1) o):bval o=((dv A*dv B:Nat):Int):=h.v
theorem rtrim_con (s:ByteArray) (hb:s.size<=1099511627776):Con Tryz.prog 302 [.v (.string s)] (.v (.string (mg (bv s)))):=by
 refine Con.of ttOk mixed Tryz.func302 {} .nil 0 (by kernel_rfl) (fun P' E hP hE=>?_)
 obtain ⟨m,hm⟩:∃ m,m=mg (bv s):=⟨_,rfl⟩
 rw [<-hm]
 cbv
 refine LoopTo.by (ι:=ByteArray) (fun t=>[(0,.v (.string t))]) (fun _=>[]) (fun t=>bv t=bv s/\t.size<=s.size) (fun t=>t.size) s [] ⟨rfl,Nat.le_refl _⟩ ?_ ?_
 ·cbv
  simp
 ·intro t ht
  obtain ⟨u,hu⟩:∃ u,u=t.extract 1 t.size:=⟨_,rfl⟩
  cbv
  refine ⟨fun h1=>?_,fun h1=>?_⟩
  ·have hne:t.size ≠ 0:=by subst hE; have h:std.ic .gtr (std.sz t) 0=_:=h1; simp at h; omega
   cbv
   refine ⟨?_,?_⟩
   ·subst hE; simp; omega
   cbv
   refine ⟨fun h2=>?_,fun h2=>?_⟩
   ·cbv
    refine ⟨?_,?_⟩
    ·subst hE; simp; omega
    cbv
    have hu1:dg u=(dg t).drop 1:=by rw [hu,dg_extract,List.take_of_length_le (by rw [<-dg_size]; exact Nat.le_refl _)]
    have hu2:u.size=t.size - 1:=by rw [dg_size,hu1,List.length_drop,<-dg_size]
    have hd:(dg t).getD 0 0=0:=by
     subst hE
     have h:std.ic .eql (std.sa t 0) 0=true:=h2
     rw [s_eql,s_sa,dg_get] at h
     have h:((dg t).getD 0 0).toNat=0:=by simpa using h
     exact UInt8.toNat_inj.1 h
    refine ⟨u,[],⟨?_,by omega⟩,by omega,?_⟩
    ·rw [<-ht.1]
     show dv (dg u)=dv (dg t)
     rw [hu1]
     have:0 < (dg t).length:=by rw [<-dg_size]; omega
     cases e:dg t with
     | nil=>rfl
     | cons d l=>rw [e] at hd; simp at hd; subst hd; rw [dv_cons0]; rfl
    ·cbv
     subst hE
     simp [hu]
   ·cbv
    have hd:∀ d l,dg t=d::l->d ≠ 0:=by
     rintro d l h rfl
     subst hE
     have h3:std.ic .eql (std.sa t 0) 0=false:=h2
     rw [s_eql,s_sa,dg_get] at h3
     simp [h] at h3
    rw [hm,<-ht.1]
    congr 1
    refine dg_ext ?_
    rw [dg_mg]
    exact (mgl_dv _ _ rfl hd).symm
  ·cbv
   have hz:t.size=0:=by subst hE; have h:=of_decide_eq_false (show decide ((t.size:Int) > 0)=false from h1); omega
   have:t=⟨#[]⟩:=ByteArray.ext (Array.eq_empty_of_size_eq_zero hz)
   rw [hm,<-ht.1,this]
   congr 1
   refine dg_ext ?_
   rw [dg_mg]
   exact mgl_zero.symm
theorem rsmall_con (s:ByteArray) (h:s.size<=7):Con Tryz.prog 303 [.v (.string s)] (.v (.int .i64 (bv s:Nat))):=by
 obtain ⟨r,hr⟩:∃ r:Int,r=(bv s:Nat):=⟨_,rfl⟩
 rw [<-hr]
 refine Con.of ttOk mixed Tryz.func303 {} .nil 0 (by kernel_rfl) (fun P' E hP hE=>?_)
 obtain ⟨i0,hi0⟩:∃ i:Int,i=0:=⟨_,rfl⟩
 have hz:WInv s i0 i0:=by subst hi0; exact ⟨by omega,by omega,rfl⟩
 have hfin:∀ i n:Int,WInv s i n->¬ i < s.size->n=r:=by
  intro i n q hi
  have q1:=q.i1
  have q0:=q.i0
  rw [q.v,List.take_of_length_le (by rw [<-dg_size]; omega),hr]; rfl
 cbv
 refine LoopTo.by (ι:=Int × Int) (fun x=>[(4,.v (.int .i64 x.1)),(3,.v (.int .i64 x.2))]) (fun x=>[]) (fun x=>WInv s x.1 x.2) (fun x=>((s.size:Int) - x.1).toNat) (i0,i0) [] hz ?_ ?_
 ·cbv
  subst hE
  and_intros
  all_goals first
   | exact congrArg (Value.int _) hi0.symm
   | (simp; done)
 ·rintro ⟨i,n⟩ hi
  have hi:WInv s i n:=hi
  have hi00:=hi.i0
  cbv
  refine fork.mk ?_ ?_
  ·intro h2
   have hlt:i < s.size:=by
    subst hE
    have h:std.ic .lss i (std.sz s)=true:=h2
    simpa using h
   have q:=hi.step h hlt
   refine exVar (n*256+(((dg s).getD i.toNat 0).toNat:Int)) ?_
   intro n' hn'
   refine exVar (i+1) ?_
   intro i' hi'
   have q1:std.ib .or .i64 (std.ib .shl .i64 n 8) (std.cv .i64 (std.sa s i))=n':=by rw [hn']; exact q.1
   have q2:WInv s i' n':=by rw [hn',hi']; exact q.2
   have hii:std.ib .add .i64 i 1=i':=by rw [s_add,w64 (by omega) (by omega),hi']
   have hin:std.inb i (std.sz s):=by rw [s_inb,s_sz]; exact ⟨hi00,hlt⟩
   have hmu:((s.size:Int) - i').toNat < ((s.size:Int) - i).toNat:=by omega
   clear hn' q
   cbv
   refine ⟨by subst hE; simp,?_⟩
   cbv
   refine ⟨by subst hE; exact hin,?_⟩
   cbv
   refine ⟨(i',n'),[],q2,hmu,?_⟩
   cbv
   subst hE
   and_intros
   all_goals first
    | exact vi q1
    | exact vi hii
    | (simp; done)
  ·intro h2
   have hlt:¬ i < s.size:=by
    subst hE
    have h:std.ic .lss i (std.sz s)=false:=h2
    simpa using h
   have q:=hfin i n hi hlt
   cbv
   exact congrArg (Value.int .i64) q
theorem rvalue_con (neg:Bool) (mag:ByteArray) (h:mag.size<=7):Con Tryz.prog 246 [.v (zR neg mag)] (.v (.int .i64 (zval neg mag))):=by
 have hs:=rsmall_con mag h
 have hb:=zval_small false mag h
 obtain ⟨v,hv⟩:∃ v:Int,v=(bv mag:Nat):=⟨_,rfl⟩
 have hb : -72057594037927936 < v/\v < 72057594037927936:=by rw [hv]; exact hb
 rw [<-hv] at hs
 obtain ⟨r,hr⟩:∃ r,r=zval neg mag:=⟨_,rfl⟩
 rw [<-hr]
 have hneg:neg=true->r = -v:=by intro e; rw [hr,e,hv]; rfl
 have hpos:neg=false->r=v:=by intro e; rw [hr,e,hv]; rfl
 clear hr
 unfold zR
 refine Con.of ttOk mixed Tryz.func246 {} .nil 0 (by kernel_rfl) (fun P' E hP hE=>?_)
 cbv
 refine fork.mk ?_ ?_
 ·intro g
  cbv
  refine CallTo.w hP hE hs ⟨rfl,trivial⟩ ?_
  cbv
  subst hE
  have:std.un .neg .i64 v=r:=by rw [s_neg,w64 (by omega) (by omega),hneg g]; omega
  exact congrArg (Value.int .i64) this
 ·intro g
  cbv
  refine CallTo.w hP hE hs ⟨rfl,trivial⟩ ?_
  cbv
  exact congrArg (Value.int .i64) (hpos g).symm
theorem mg_one8 {n:Nat} (h0:n ≠ 0) (h:n < 256):mgl n=[UInt8.ofNat n]:=by
 rw [mgl_pos h0,Nat.div_eq_of_lt h,mgl_zero,Nat.mod_eq_of_lt h]; rfl
theorem rmag_con (N:Nat) (h:N < 9223372036854775808):Con Tryz.prog 244 [.v (.int .i64 N)] (.v (.string (mg N))):=by
 obtain ⟨n0,hn0⟩:∃ x:Int,x=N:=⟨_,rfl⟩
 obtain ⟨o0,ho0⟩:∃ x:List Int,x=List.replicate 8 0:=⟨_,rfl⟩
 obtain ⟨i0,hi0⟩:∃ x:Int,x=8:=⟨_,rfl⟩
 obtain ⟨s,hs⟩:∃ s,s=mg N:=⟨_,rfl⟩
 rw [<-hn0,<-hs]
 have hz:XInv N n0 i0 o0:=by
  have e8:i0.toNat=8:=by omega
  have h8:(256:Nat) ^ 8=18446744073709551616:=by decide
  refine ⟨by omega,by omega,by omega,?_,by rw [ho0]; simp,?_⟩
  ·rw [e8,h8]; omega
  ·rw [e8,List.drop_eq_nil_of_le (by rw [ho0]; simp),hn0,Int.toNat_natCast]; simp [by8]
 have hnil:n0=0->s=⟨⟨[]⟩⟩:=by
  intro e
  rw [hs,show N=0 by omega]; exact dg_ext mgl_zero
 have hone:¬ n0=0->n0 < 256->std.b2s Int (fun x=>[.int .u8 x]) [std.cv .u8 n0]=s:=by
  intro e1 e2
  refine dg_ext ?_
  rw [hs,dg_mg,mg_one8 (by omega) (by omega),s_cv,IntKind.wrap_u8,show n0 % 256=(N:Int) by omega]
  rfl
 refine Con.of ttOk mixed Tryz.func244 {} .nil 0 (by kernel_rfl) (fun P' E hP hE=>?_)
 cbv
 refine fork.mk ?_ ?_
 ·intro g1
  have g1':n0 < 256:=by
   subst hE
   have h:std.ic .lss n0 256=true:=g1
   simpa using h
  cbv
  refine fork.mk ?_ ?_
  ·intro g2
   have g2':n0=0:=by
    subst hE
    have h:std.ic .eql n0 0=true:=g2
    simpa using h
   cbv
   exact congrArg Value.string (hnil g2').symm
  ·intro g2
   have g2':¬ n0=0:=by
    subst hE
    have h:std.ic .eql n0 0=false:=g2
    simpa using h
   have q:=hone g2' g1'
   cbv
   subst hE
   exact congrArg Value.string q
 ·intro g1
  cbv
  refine ⟨trivial,?_⟩
  cbv
  refine LoopTo.by (ι:=Int × Int × List Int) (fun x=>[(0,.v (.int .i64 x.1)),(4,.v (.int .i64 x.2.1))]) (fun x=>[(1,.row true 250 (cInt .u8) x.2.2)]) (fun x=>XInv N x.1 x.2.1 x.2.2) (fun x=>x.1.toNat) (n0,i0,o0) [] hz ?_ ?_
  ·cbv
   subst hE
   and_intros
   all_goals first
    | exact congrArg (Value.int _) hi0.symm
    | exact Sm.of ho0.symm
    | (simp; done)
  ·rintro ⟨n,i,o⟩ hi
   have hi:XInv N n i o:=hi
   cbv
   refine fork.mk ?_ ?_
   ·intro h1
    have h1':0 < n:=by
     subst hE
     have h:std.ic .gtr n 0=true:=h1
     simpa using h
    have q:=hi.step h1'
    have b1:=hi.i1
    have b2:=hi.n0
    have b3:=hi.len
    refine exVar (i - 1) ?_
    intro i' hi'
    refine exVar (n / 256) ?_
    intro n' hn'
    refine exVar (o.set i'.toNat (n % 256)) ?_
    intro o' ho'
    have hQ:XInv N n' i' o':=by rw [ho',hn',hi']; exact q.2
    have hsub:std.ib .sub .i64 i 1=i':=by rw [s_sub,w64 (by omega) (by omega),hi']
    have hin:std.inb (std.ib .sub .i64 i 1) (std.nof 8)/\std.len Int o=std.nof 8:=by
     rw [hsub,s_nof,s_inb,s_len,b3]
     exact ⟨⟨by rw [hi']; exact q.1,by show i' < 8; omega⟩,rfl⟩
    have hset:std.set Int o (std.ib .sub .i64 i 1) (std.cv .u8 n)=o':=by
     rw [hsub,s_set,s_cv,IntKind.wrap_u8,ho']
    have hshr:std.ib .shr .i64 n 8=n':=by
     rw [hn']; exact Int.fdiv_eq_ediv_of_nonneg _ (by decide)
    have hmu:n'.toNat < n.toNat:=by omega
    clear q ho'
    cbv
    refine ⟨by subst hE; exact hin,?_⟩
    cbv
    refine ⟨by subst hE; simp,?_⟩
    cbv
    refine ⟨(n',i',o'),[],hQ,hmu,?_⟩
    cbv
    subst hE
    and_intros
    all_goals first
     | exact Sm.of hset
     | exact vi hsub
     | exact vi hshr
     | (simp; done)
   ·intro h1
    have h1':¬ 0 < n:=by
     subst hE
     have h:std.ic .gtr n 0=false:=h1
     simpa using h
    have b0:=hi.i0
    have b1:=hi.i1
    have b2:=hi.n0
    have b3:=hi.len
    have b4:=hi.v
    have hr:std.rng i (std.nof 8) (std.nof 8)/\std.len Int o=std.nof 8:=by
     rw [s_nof,s_rng,s_len,b3]
     exact ⟨⟨b0,b1,Int.le_refl _⟩,rfl⟩
    cbv
    refine ⟨by subst hE; exact hr,?_⟩
    have hstr:std.b2s Int (fun x=>[.int .u8 x]) (std.wnd Int o i (std.sb (std.nof 8) i))=s:=by
     have e0:n.toNat=0:=by omega
     rw [e0,mgl_zero,List.nil_append] at b4
     have e1:(((8:Nat):Int) - i).toNat=8 - i.toNat:=by omega
     rw [s_wnd,s_sb,s_nof,e1,List.take_of_length_le (by rw [List.length_drop,b3]; exact Nat.le_refl _)]
     refine dg_ext ?_
     rw [hs,dg_mg,b4]
     show (((o.drop i.toNat).flatMap fun x=>[Value.int .u8 x]).map byteOf).toArray.toList=by8 (o.drop i.toNat)
     exact flat8 _
    cbv
    refine ⟨fun y=>⟨y,rfl⟩,?_⟩
    cbv
    subst hE
    exact congrArg Value.string hstr
/-- The order of rows of digits of one length. -/
theorem dv_lt_head {a b:UInt8} {l m:List UInt8} (h:a < b) (hl:l.length=m.length):dv (a::l) < dv (b::m):=by
 have h1:=dv_lt l
 rw [dv_cons,dv_cons,<-hl]
 have h2:a.toNat+1<=b.toNat:=UInt8.lt_iff_toNat_lt.1 h
 have h3:(a.toNat+1)*256 ^ l.length<=b.toNat*256 ^ l.length:=Nat.mul_le_mul_right _ h2
 rw [Nat.add_mul,Nat.one_mul] at h3
 omega
theorem less_dv:∀ {l m:List UInt8},l.length=m.length->Op.bytesLess l m=decide (dv l < dv m)
 | [],[],_=>by simp [Op.bytesLess]
 | a::l,b::m,h=>by
  have hl:l.length=m.length:=by simpa using h
  rw [Op.bytesLess]
  have ih:=less_dv hl
  by_cases c1:a < b
  ·have:=dv_lt_head c1 hl
   simp [c1,this]
  ·by_cases c2:b < a
   ·have:=dv_lt_head c2 hl.symm
    have c3:¬ a=b:=by rintro rfl; exact c1 c2
    have:¬ dv (a::l) < dv (b::m):=by omega
    simp [c1,c3,this]
   ·have h1:¬ a.toNat < b.toNat:=fun h=>c1 (UInt8.lt_iff_toNat_lt.2 h)
    have h2:¬ b.toNat < a.toNat:=fun h=>c2 (UInt8.lt_iff_toNat_lt.2 h)
    have c3:a=b:=UInt8.toNat_inj.1 (by omega)
    subst c3
    rw [ih,dv_cons,dv_cons,hl]
    simp
 | [],_::_,h=>by simp at h
 | _::_,[],h=>by simp at h
theorem cmpM_con (A B:Nat) (ha:(mg A).size<=1099511627776) (hb:(mg B).size<=1099511627776):Con Tryz.prog 290 [.v (.string (mg A)),.v (.string (mg B))] (.v (.int .i64 (cmpI A B))):=by
 obtain ⟨r,hr⟩:∃ r,r=cmpI A B:=⟨_,rfl⟩
 rw [<-hr]
 have r1:A < B->r = -1:=fun h=>by rw [hr,cmpI,if_pos (by omega)]
 have r2:B < A->r=1:=fun h=>by rw [hr,cmpI,if_neg (by omega),if_pos (by omega)]
 have r3:A=B->r=0:=fun h=>by rw [hr,cmpI,if_neg (by omega),if_neg (by omega)]
 clear hr
 obtain ⟨a,hav⟩:∃ a,a=mg A:=⟨_,rfl⟩
 obtain ⟨b,hbv⟩:∃ b,b=mg B:=⟨_,rfl⟩
 rw [<-hav,<-hbv]
 have hda:dv (dg a)=A:=by rw [hav]; exact bv_mg A
 have hdb:dv (dg b)=B:=by rw [hbv]; exact bv_mg B
 have hlen:∀ {A B:Nat} {a b:ByteArray},a=mg A->b=mg B->a.size < b.size->A < B:=by
  intro A B a b ha hb hlt
  have h1:=mg_size_le (n:=B) (k:=a.size)
  refine Decidable.byContradiction fun c=>?_
  have h2:B < 256 ^ a.size:=by
   have h3:=dv_lt (dg a)
   have h4:dv (dg a)=A:=by rw [ha]; exact bv_mg A
   rw [h4,<-dg_size] at h3
   omega
  have:=h1 h2
  rw [<-hb] at this
  omega
 refine Con.of ttOk mixed Tryz.func290 {} .nil 0 (by kernel_rfl) (fun P' E hP hE=>?_)
 cbv
 refine fork.mk ?_ ?_
 ·intro g1
  have g1':¬ a.size=b.size:=by
   subst hE
   have h:std.ic .neq (std.sz a) (std.sz b)=true:=g1
   simp at h
   omega
  cbv
  refine fork.mk ?_ ?_
  ·intro g2
   have g2':a.size < b.size:=by
    subst hE
    have h:=of_decide_eq_true (show decide ((a.size:Int) < b.size)=true from g2)
    omega
   have h9:=hlen hav hbv g2'
   cbv
   rw [r1 h9]
  ·intro g2
   have g2':¬ a.size < b.size:=by
    subst hE
    have h:=of_decide_eq_false (show decide ((a.size:Int) < b.size)=false from g2)
    omega
   have h9:=hlen hbv hav (by omega)
   cbv
   rw [r2 h9]
 ·intro g1
  have g1':a.size=b.size:=by
   subst hE
   have h:std.ic .neq (std.sz a) (std.sz b)=false:=g1
   simp at h
   omega
  have hl:std.sl a b=decide (A < B):=by
   have:Op.bytesLess (dg a) (dg b)=decide (dv (dg a) < dv (dg b)):=less_dv (by rw [<-dg_size,<-dg_size]; exact g1')
   rw [hda,hdb] at this
   rw [<-this]
   show Op.bytesLess a.toList b.toList=_
   rw [ByteArray.toList_eq,ByteArray.toList_eq]; rfl
  have hg:std.sg a b=decide (¬ A < B/\¬ A=B):=by
   have e2:std.sg a b = !(std.sl a b || std.sq a b):=rfl
   have e3:(a=b)=(A=B):=by
    rw [hav,hbv]
    refine propext ⟨fun h=>?_,fun h=>by rw [h]⟩
    have:=congrArg bv h
    rwa [bv_mg,bv_mg] at this
   rw [e2,hl,sq_iff]
   simp only [e3]
   rw [Bool.eq_iff_iff]; simp
  cbv
  refine fork.mk ?_ ?_
  ·intro g2
   have g2':A < B:=by
    subst hE
    have h:std.sl a b=true:=g2
    rw [hl] at h; simpa using h
   cbv
   rw [r1 g2']
  ·intro g2
   have g2':¬ A < B:=by
    subst hE
    have h:std.sl a b=false:=g2
    rw [hl] at h; simpa using h
   cbv
   refine fork.mk ?_ ?_
   ·intro g3
    have g3':¬ A < B/\¬ A=B:=by
     subst hE
     have h:std.sg a b=true:=g3
     rw [hg] at h; simpa using h
    cbv
    rw [r2 (by omega)]
   ·intro g3
    have g3':¬ (¬ A < B/\¬ A=B):=by
     subst hE
     have h:std.sg a b=false:=g3
     rw [hg] at h; exact of_decide_eq_false h
    cbv
    rw [r3 (by omega)]
theorem mg_nil {n:Nat}:mg n=⟨⟨[]⟩⟩ ↔ n=0:=by
 constructor
 ·intro h
  have:=congrArg bv h
  rwa [bv_mg] at this
 ·intro h; subst h; exact dg_ext mgl_zero
theorem rcanon_con (neg:Bool) (mag:ByteArray) (h:mag.size<=1099511627776):Con Tryz.prog 245 [.v (zR neg mag)] (.v (zV (zval neg mag))):=by
 have ht:=rtrim_con mag h
 obtain ⟨m,hm⟩:∃ m,m=mg (bv mag):=⟨_,rfl⟩
 rw [<-hm] at ht
 have hab:=zval_abs neg mag
 have hA:∀ d l,dg mag=d::l->d ≠ 0->zV (zval neg mag)=.agg #[.bool neg,.string mag]:=by
  intro d l hd h0
  have e1:mag=mg (bv mag):=dg_ext (by
   rw [dg_mg]
   exact (mgl_dv _ _ rfl (fun d' l' h'=>by rw [hd] at h'; injection h' with h1 h2; rw [<-h1]; exact h0)).symm)
  have e2:0 < bv mag:=by
   show 0 < dv (dg mag)
   rw [hd,dv_cons]
   have:d.toNat ≠ 0:=fun e=>h0 (UInt8.toNat_inj.1 (by simpa using e))
   have:=Nat.mul_pos (show 0 < d.toNat by omega) (show 0 < 256 ^ l.length from Nat.pow_pos (by decide))
   omega
  unfold zV zR
  rw [hab,<-e1]
  congr 3
  unfold zval
  cases neg<;>simp<;>omega
 have hB:zV (zval neg mag)=.agg #[.bool (neg && decide (¬ m=⟨⟨[]⟩⟩)),.string m]:=by
  have hd:decide (¬ m=⟨⟨[]⟩⟩)=decide (¬ bv mag=0):=decide_eq_decide.2 (not_congr (by rw [hm]; exact mg_nil))
  rw [hd]
  unfold zV zR
  rw [hab,<-hm]
  refine congrArg (fun b=>Value.agg #[.bool b,.string m]) ?_
  unfold zval
  cases neg
  ·simp
  ·rw [Bool.eq_iff_iff]; simp; omega
 obtain ⟨sg,rm,hzv⟩:=zV_ex (zval neg mag)
 rw [hzv] at hA hB ⊢
 clear hzv hab
 unfold zR
 refine Con.of ttOk mixed Tryz.func245 {} .nil 0 (by kernel_rfl) (fun P' E hP hE=>?_)
 have hsq:∀ z:ByteArray,z=⟨⟨[]⟩⟩->std.bn (std.sq m z)=decide (¬ m=⟨⟨[]⟩⟩):=by
  intro z hz
  rw [s_bn,sq_iff,hz]; simp
 have rest:∀ (K:AV->List Blk->Prop),True:=fun _=>trivial
 cbv
 refine fork.mk ?_ ?_
 ·intro g1
  have g1':0 < mag.size:=by
   subst hE
   have h:=of_decide_eq_true (show decide ((mag.size:Int) > 0)=true from g1)
   omega
  cbv
  refine Need.mk (by subst hE; simp; omega) ?_
  cbv
  refine fork.mk ?_ ?_
  ·intro g2
   have hh:=hA ((dg mag).getD 0 0) ((dg mag).drop 1) (by
    have:0 < (dg mag).length:=by rw [<-dg_size]; exact g1'
    cases e:dg mag with
    | nil=>rw [e] at this; simp at this
    | cons d l=>rfl) (by
    intro e
    subst hE
    have h:std.ic .neq (std.sa mag 0) 0=true:=g2
    rw [s_neq,s_sa,dg_get] at h
    simp at h
    exact h (by
     have e':(dg mag)[0]?.getD 0=0:=by rw [<-List.getD_eq_getElem?_getD]; exact e
     rw [e']; rfl))
   cbv
   rw [hh]
  ·intro g2
   cbv
   refine CallTo.w hP hE ht ⟨rfl,trivial⟩ ?_
   cbv
   refine fork.mk ?_ ?_
   ·intro g3
    rw [g3] at hB
    cbv
    subst hE
    rw [hB]
    have:=hsq ⟨⟨[]⟩⟩ rfl
    simp only [Bool.true_and]
    exact congrArg (fun b=>Value.agg #[.bool b,.string m]) this
   ·intro g3
    rw [g3] at hB
    cbv
    rw [hB]; rfl
 ·intro g1
  cbv
  refine CallTo.w hP hE ht ⟨rfl,trivial⟩ ?_
  cbv
  refine fork.mk ?_ ?_
  ·intro g3
   rw [g3] at hB
   cbv
   subst hE
   rw [hB]
   have:=hsq ⟨⟨[]⟩⟩ rfl
   simp only [Bool.true_and]
   exact congrArg (fun b=>Value.agg #[.bool b,.string m]) this
  ·intro g3
   rw [g3] at hB
   cbv
   rw [hB]; rfl
end Go.Proofs.YtkipmmiiackdaaaGreat.Sx
