/- Part 18 of what the statement needs: an executor of Go texts, arithmetic, and contracts of the functions that are called. -/
import Derived.Test.YtkipmmiiackdaaaGreatCi17
set_option linter.unusedSimpArgs false
set_option linter.unusedVariables false
set_option maxHeartbeats 8000000
set_option maxRecDepth 100000
namespace Go.Proofs.YtkipmmiiackdaaaGreat.Sx
open Env (std)
/-- A whole number as the program takes it: a sign, and digits. -/
def zR (neg:Bool) (mag:ByteArray):Value:=.agg #[.bool neg,.string mag]
/-- Its value. -/
def zval (neg:Bool) (mag:ByteArray):Int:=if neg then -(bv mag:Int) else bv mag
/-- A whole number as the program gives it. -/
def zV (z:Int):Value:=zR (decide (z < 0)) (mg z.natAbs)
theorem zval_mg (z:Int):zval (decide (z < 0)) (mg z.natAbs)=z:=by
 unfold zval
 rw [bv_mg]
 by_cases h:z < 0
 ·simp only [h,decide_true,if_true]; omega
 ·simp only [h,decide_false]; simp; omega
theorem divide_ge (a d:Nat) (h:d<=a) (h0:0 < d) (ha:(lb a).length<=137438953470):Con Tryz.prog 281 [.ro cU (lb a),.ro cU (lb d)] (.tup [.ro cU (lb (a / d)),.ro cU (lb (a % d))]):=by
 by_cases c:2<=(lb d).length
 ·exact divide_many a d h ha c
 ·refine divide_one a d h (by omega) ?_
  have:=lb_len_ge (n:=d) (k:=0) (by omega)
  omega
theorem mg_empty {n:Nat}:mg n=ByteArray.empty ↔ n=0:=by
 constructor
 ·intro h
  have:=bv_mg n
  rw [h] at this
  exact this.symm
 ·intro h
  subst h
  refine dg_ext ?_
  rw [dg_mg,mgl_zero]; rfl
theorem pack_con (neg:Bool) (xs:List Int) (hx:Ok32 xs) (ha:xs.length<=137438953472):Con Tryz.prog 207 [.v (.bool neg),.ro cU xs] (.v (zV (if neg then - val xs else val xs))):=by
 have ht:=trim_con xs (by omega)
 have htk:=take_tlen hx
 have hvn:=val_nonneg hx
 obtain ⟨n,hn⟩:∃ n,n=tlen xs:=⟨_,rfl⟩
 rw [<-hn] at ht htk
 have hs:=store_con (lb (val xs).toNat) (lb_ok _) (by rw [<-htk,List.length_take]; omega)
 rw [val_lb] at hs
 have e0:(((val xs).toNat:Int)).toNat=(val xs).toNat:=by omega
 rw [e0] at hs
 obtain ⟨ys,hys⟩:∃ y,y=lb (val xs).toNat:=⟨_,rfl⟩
 rw [<-hys] at hs htk
 obtain ⟨v,hv⟩:∃ v:Nat,v=(val xs).toNat:=⟨_,rfl⟩
 rw [<-hv] at hs
 have hr:zV (if neg then - val xs else val xs)=zR (neg && decide (v ≠ 0)) (mg v):=by
  unfold zV
  cases neg
  ·have e1:(if false=true then -val xs else val xs)=val xs:=rfl
   rw [e1]
   have e2:decide (val xs < 0)=false:=decide_eq_false (by omega)
   have e3:(val xs).natAbs=v:=by omega
   rw [e2,e3]; rfl
  ·have e1:(if true=true then -val xs else val xs) = - val xs:=rfl
   rw [e1]
   have e2:decide (-val xs < 0)=decide (v ≠ 0):=decide_eq_decide.2 (by omega)
   have e3:(-val xs).natAbs=v:=by omega
   rw [e2,e3]; simp
 rw [hr]
 have hemp:decide (v ≠ 0)=std.bn (std.sq (mg v) ⟨⟨[]⟩⟩):=by
  rw [s_bn,sq_iff]
  have:(mg v=⟨⟨[]⟩⟩) ↔ v=0:=mg_empty
  by_cases c:v=0
  ·rw [decide_eq_true (this.2 c)]; simp [c]
  ·rw [decide_eq_false (fun h=>c (this.1 h))]; simp [c]
 obtain ⟨s,hse⟩:∃ s,s=mg v:=⟨_,rfl⟩
 rw [hemp,<-hse]
 rw [<-hse] at hs
 unfold zR
 obtain ⟨w,hw⟩:∃ w,w=std.bn (std.sq s ⟨⟨[]⟩⟩):=⟨_,rfl⟩
 rw [<-hw]
 obtain ⟨sg,hsg⟩:∃ b,b=(neg && w):=⟨_,rfl⟩
 rw [<-hsg]
 refine Con.of ttOk mixed Tryz.func207 {} .nil 0 (by kernel_rfl) (fun P' E hP hE=>?_)
 clear hr hemp hv hvn hys hse e0
 have hlx:std.tk Int xs (std.len Int xs)=xs:=by rw [s_tk,s_len,List.take_of_length_le (by omega)]
 have hly:std.tk Int xs n=ys:=by rw [s_tk,Int.toNat_natCast,htk]
 cbv
 refine CallTo.con hP hE ht (by subst hE; exact ⟨Sm.of hlx,trivial⟩) ?_
 cbv
 refine CallTo.con hP hE hs (by subst hE; exact ⟨Sm.of hly,trivial⟩) ?_
 cbv
 refine fork.mk ?_ ?_
 ·intro h1
  cbv
  subst hE
  have e:std.bn (std.sq s ⟨⟨[]⟩⟩)=sg:=by
   have h1:neg=true:=h1
   rw [hsg,h1,<-hw]; rfl
  exact congrArg (fun b=>Value.agg #[.bool b,.string s]) e
 ·intro h1
  cbv
  subst hE
  have e:false=sg:=by
   have h1:neg=false:=h1
   rw [hsg,h1]; rfl
  exact congrArg (fun b=>Value.agg #[.bool b,.string s]) e
theorem lb_le_bytes {n k:Nat} (h:n < 256 ^ k):(lb n).length<=k:=by
 refine lb_len_lt (Nat.lt_of_lt_of_le h ?_)
 exact Nat.pow_le_pow_left (by decide) k
theorem bv_lt (s:ByteArray):bv s < 256 ^ s.size:=by
 rw [dg_size]; exact dv_lt _
theorem zV_ex (z:Int):∃ (sg:Bool) (m:ByteArray),zV z=.agg #[.bool sg,.string m]:=⟨_,_,rfl⟩
theorem neg_con (neg:Bool) (mag:ByteArray) (hm:mag.size<=4294967296):Con Tryz.prog 206 [.v (zR neg mag)] (.v (zV (- zval neg mag))):=by
 have hl:=load_con mag (by omega)
 have hp:=pack_con (!neg) (lb (bv mag)) (lb_ok _) (by have:=lb_le_bytes (bv_lt mag); omega)
 rw [val_lb] at hp
 have e:(if (!neg)=true then -(bv mag:Int) else bv mag) = - zval neg mag:=by
  unfold zval; cases neg<;>simp
 rw [e] at hp
 obtain ⟨xs,hxs⟩:∃ x,x=lb (bv mag):=⟨_,rfl⟩
 rw [<-hxs] at hl hp
 obtain ⟨sg,m,hz⟩:=zV_ex (-zval neg mag)
 rw [hz] at hp ⊢
 obtain ⟨b,hb⟩:∃ b,b = !neg:=⟨_,rfl⟩
 rw [<-hb] at hp
 unfold zR
 refine Con.of ttOk mixed Tryz.func206 { ord:=[(1,List.range 8)] } .nil 0 (by kernel_rfl) (fun P' E hP hE=>?_)
 clear hxs hz e
 have hlx:std.tk Int xs (std.len Int xs)=xs:=by rw [s_tk,s_len,List.take_of_length_le (by omega)]
 have hbn:std.bn neg=b:=hb.symm
 cbv
 refine CallTo.con hP hE hl (by subst hE; exact ⟨rfl,trivial⟩) ?_
 cbv
 refine CallTo.con hP hE hp (by subst hE; exact ⟨congrArg Value.bool hbn,Sm.of hlx,trivial⟩) ?_
 cbv
theorem mul_con (na nb:Bool) (ma mb:ByteArray) (ha:ma.size<=4294967296) (hb:mb.size<=4294967296):Con Tryz.prog 127 [.v (zR na ma),.v (zR nb mb)] (.v (zV (zval na ma*zval nb mb))):=by
 have hla:=load_con ma (by omega)
 have hlb:=load_con mb (by omega)
 have qa:=lb_le_bytes (bv_lt ma)
 have qb:=lb_le_bytes (bv_lt mb)
 have ht:=times_con (bv ma) (bv mb) (by omega)
 have hp:=pack_con (na != nb) (lb (bv ma*bv mb)) (lb_ok _) (by
  have h1:=lb_lt (bv ma)
  have h2:=lb_lt (bv mb)
  have:bv ma*bv mb < 256 ^ (ma.size+mb.size):=by
   rw [Nat.pow_add]
   exact Nat.mul_lt_mul'' (bv_lt ma) (bv_lt mb)
  have:=lb_le_bytes this
  omega)
 rw [val_lb] at hp
 have e:(if (na != nb)=true then -((bv ma*bv mb:Nat):Int) else ((bv ma*bv mb:Nat):Int))=zval na ma*zval nb mb:=by
  unfold zval
  cases na<;>cases nb<;>simp [Int.natCast_mul,Int.neg_mul,Int.mul_neg]
 rw [e] at hp
 obtain ⟨xs,hxs⟩:∃ x,x=lb (bv ma):=⟨_,rfl⟩
 obtain ⟨ys,hys⟩:∃ x,x=lb (bv mb):=⟨_,rfl⟩
 obtain ⟨zs,hzs⟩:∃ x,x=lb (bv ma*bv mb):=⟨_,rfl⟩
 rw [<-hxs] at hla
 rw [<-hys] at hlb
 rw [<-hxs,<-hys,<-hzs] at ht
 rw [<-hzs] at hp
 obtain ⟨sg,m,hz⟩:=zV_ex (zval na ma*zval nb mb)
 rw [hz] at hp ⊢
 obtain ⟨b,hbb⟩:∃ b,b=(na != nb):=⟨_,rfl⟩
 rw [<-hbb] at hp
 unfold zR
 refine Con.of ttOk mixed Tryz.func127 { ord:=[(1,[0,1,2,3,4,5,6,8,9,7,10,11,12,13])] } .nil 0 (by kernel_rfl) (fun P' E hP hE=>?_)
 clear hxs hys hzs hz e
 have hlx:std.tk Int xs (std.len Int xs)=xs:=by rw [s_tk,s_len,List.take_of_length_le (by omega)]
 have hly:std.tk Int ys (std.len Int ys)=ys:=by rw [s_tk,s_len,List.take_of_length_le (by omega)]
 have hlz:std.tk Int zs (std.len Int zs)=zs:=by rw [s_tk,s_len,List.take_of_length_le (by omega)]
 have hbn:std.bn (std.bq na nb)=b:=hbb.symm
 cbv
 refine CallTo.con hP hE hla (by subst hE; exact ⟨rfl,trivial⟩) ?_
 cbv
 refine CallTo.con hP hE hlb (by subst hE; exact ⟨rfl,trivial⟩) ?_
 cbv
 refine CallTo.con hP hE ht (by subst hE; exact ⟨Sm.of hlx,Sm.of hly,trivial⟩) ?_
 cbv
 refine CallTo.con hP hE hp (by subst hE; exact ⟨congrArg Value.bool hbn,Sm.of hlz,trivial⟩) ?_
 cbv
theorem lit2 {a b c d:Int} (h:a=c) (h':b=d):some [Value.int .u32 a,Value.int .u32 b]=some [Value.int .u32 c,Value.int .u32 d]:=by rw [h,h']
theorem of_con (n:Int) (h0 : -9223372036854775808<=n) (h1:n < 9223372036854775808):Con Tryz.prog 122 [.v (.int .i64 n)] (.v (zV n)):=by
 obtain ⟨u,hu⟩:∃ u:Nat,u=n.natAbs:=⟨_,rfl⟩
 obtain ⟨U,hU⟩:∃ x:Int,x=u:=⟨_,rfl⟩
 have en:n < 0->(0 - n % 18446744073709551616) % 18446744073709551616=U:=fun _=>by omega
 have ep:¬ n < 0->n % 18446744073709551616=U:=fun _=>by omega
 obtain ⟨lo,hlo⟩:∃ x:Int,x=U % 4294967296:=⟨_,rfl⟩
 obtain ⟨hi,hhi⟩:∃ x:Int,x=U / 4294967296:=⟨_,rfl⟩
 have hmod:hi % 4294967296=hi:=by omega
 have hok:Ok32 [lo,hi]:=.cons (by omega) (by omega) (.cons (by omega) (by omega) .nil)
 have hp:=pack_con (decide (n < 0)) [lo,hi] hok (by simp)
 have hv:val [lo,hi]=U:=by
  show lo+4294967296*(hi+4294967296*0)=U
  omega
 have e:(if decide (n < 0)=true then - val [lo,hi] else val [lo,hi])=n:=by
  rw [hv]
  by_cases c:n < 0
  ·rw [if_pos (by simpa using c)]; omega
  ·rw [if_neg (by simpa using c)]; omega
 rw [e] at hp
 obtain ⟨sg,m,hz⟩:=zV_ex n
 rw [hz] at hp ⊢
 obtain ⟨b,hb⟩:∃ b,b=decide (n < 0):=⟨_,rfl⟩
 rw [<-hb] at hp
 have hbn:std.ic .lss n 0=b:=hb.symm
 refine Con.of ttOk mixed Tryz.func122 {} .nil 0 (by kernel_rfl) (fun P' E hP hE=>?_)
 have e1:std.cv .u64 n=n % 18446744073709551616:=by rw [s_cv,IntKind.wrap_u64]
 have e2:std.un .neg .u64 (std.cv .u64 n)=(0 - n % 18446744073709551616) % 18446744073709551616:=by rw [e1,s_neg,IntKind.wrap_u64]
 have sh:∀ x:Int,std.cv .u32 (std.ib .shr .u64 x 32)=x / 4294967296 % 4294967296:=fun x=>by
  have:std.ib .shr .u64 x 32=x / 4294967296:=Int.fdiv_eq_ediv_of_nonneg _ (by decide)
  rw [this,s_cv,IntKind.wrap_u32]
 have lw:∀ x:Int,std.cv .u32 x=x % 4294967296:=fun x=>by rw [s_cv,IntKind.wrap_u32]
 cbv
 refine fork.mk ?_ ?_
 ·intro h2
  have h2':n < 0:=by
   subst hE
   have h:std.ic .lss n 0=true:=h2
   simpa using h
  have f1:std.cv .u32 (std.un .neg .u64 (std.cv .u64 n))=lo:=by rw [e2,en h2',lw,hlo]
  have f2:std.cv .u32 (std.ib .shr .u64 (std.un .neg .u64 (std.cv .u64 n)) 32)=hi:=by rw [e2,en h2',sh,<-hhi]; exact hmod
  cbv
  refine ⟨by subst hE; simp,?_⟩
  cbv
  refine CallTo.con hP hE hp ?_ ?_
  ·subst hE
   refine ⟨congrArg Value.bool hbn,⟨cInt_ok _,?_,rfl,by decide⟩,trivial⟩
   exact lit2 f1 f2
  ·cbv
 ·intro h2
  have h2':¬ n < 0:=by
   subst hE
   have h:std.ic .lss n 0=false:=h2
   simpa using h
  have f1:std.cv .u32 (std.cv .u64 n)=lo:=by rw [e1,ep h2',lw,hlo]
  have f2:std.cv .u32 (std.ib .shr .u64 (std.cv .u64 n) 32)=hi:=by rw [e1,ep h2',sh,<-hhi]; exact hmod
  cbv
  refine ⟨by subst hE; simp,?_⟩
  cbv
  refine CallTo.con hP hE hp ?_ ?_
  ·subst hE
   refine ⟨congrArg Value.bool hbn,⟨cInt_ok _,?_,rfl,by decide⟩,trivial⟩
   exact lit2 f1 f2
  ·cbv
theorem or64s {a b:Int} (k:Nat) {c:Nat} (h0:0<=a) (h1:a < ((2 ^ k:Nat):Int)) (hb:b=((2 ^ k*c:Nat):Int)) (h2:a+b < 9223372036854775808):std.ib .or .i64 b a=b+a:=by
 have hb0:0<=b:=by omega
 have e1:(BitVec.ofInt 64 a).toNat=a.toNat:=by rw [BitVec.toNat_ofInt]; omega
 have e2:(BitVec.ofInt 64 b).toNat=b.toNat:=by rw [BitVec.toNat_ofInt]; omega
 have hk:a.toNat < 2 ^ k:=by omega
 have hbn:b.toNat=2 ^ k*c:=by omega
 have e3:(BitVec.ofInt 64 b ||| BitVec.ofInt 64 a).toNat=b.toNat+a.toNat:=by
  rw [BitVec.toNat_or,e1,e2,hbn,<-Nat.two_pow_add_eq_or_of_lt hk]
 show IntKind.i64.wrap ((BitVec.ofInt 64 b ||| BitVec.ofInt 64 a).toNat:Int)=b+a
 rw [e3,w64 (by omega) (by omega)]
 omega
theorem dv_take_succ {l:List UInt8} {i:Nat} (h:i < l.length):dv (l.take (i+1))=dv (l.take i)*256+(l.getD i 0).toNat:=by
 rw [List.take_succ_eq_append_getElem h,dv_snoc,List.getD_eq_getElem?_getD,List.getElem?_eq_getElem h]; rfl
theorem pow256_mono {i j:Nat} (h:i<=j):(256:Nat) ^ i<=256 ^ j:=Nat.pow_le_pow_right (by decide) h
/-- Digits, read one by one into a machine's integer. -/
structure WInv (s:ByteArray) (i n:Int):Prop where
 i0:0<=i
 i1:i<=s.size
 v:n=dv ((dg s).take i.toNat)
theorem WInv.bound {s:ByteArray} {i n:Int} (h:WInv s i n):0<=n/\n < ((256 ^ i.toNat:Nat):Int):=by
 have h1:=dv_lt ((dg s).take i.toNat)
 have h2:(256:Nat) ^ ((dg s).take i.toNat).length<=256 ^ i.toNat:=pow256_mono (by rw [List.length_take]; omega)
 have:=h.v
 omega
theorem WInv.step {s:ByteArray} {i n:Int} (h:WInv s i n) (hs:s.size<=7) (hi:i < s.size):std.ib .or .i64 (std.ib .shl .i64 n 8) (std.cv .i64 (std.sa s i))=n*256+(((dg s).getD i.toNat 0).toNat:Int)/\WInv s (i+1) (n*256+(((dg s).getD i.toNat 0).toNat:Int)):=by
 have h0:=h.bound
 have hi0:=h.i0
 have h1:(256:Nat) ^ i.toNat<=256 ^ 6:=pow256_mono (by omega)
 have h2:(256:Nat) ^ 6=281474976710656:=by decide
 have hb:((dg s).getD i.toNat 0).toNat < 256:=UInt8.toNat_lt _
 have e1:std.sa s i=(((dg s).getD i.toNat 0).toNat:Int):=by rw [s_sa,dg_get]
 have e2:std.ib .shl .i64 n 8=n*256:=by
  have h:n*2 ^ (min (8:Int).toNat IntKind.i64.bits)=n*256:=rfl
  rw [s_shl,h,w64 (by omega) (by omega)]
 refine ⟨?_,by omega,by omega,?_⟩
 ·rw [e1,e2,s_cv,w64 (by omega) (by omega)]
  have h8:((2 ^ 8:Nat):Int)=256:=by decide
  exact or64s (a:=(((dg s).getD i.toNat 0).toNat:Int)) (b:=n*256) 8 (c:=n.toNat) (by omega) (by rw [h8]; omega) (by rw [Int.natCast_mul,h8]; omega) (by omega)
 ·have e:(i+1).toNat=i.toNat+1:=by omega
  rw [e,dv_take_succ (by rw [<-dg_size]; omega),h.v]
  omega
theorem little_no (neg:Bool) (mag:ByteArray) (h:7 < mag.size):Con Tryz.prog 216 [.v (zR neg mag)] (.v (.tuple #[.int .i64 0,.bool false])):=by
 unfold zR
 refine Con.of ttOk mixed Tryz.func216 {} .nil 0 (by kernel_rfl) (fun P' E hP hE=>?_)
 cbv
 refine fork.mk ?_ ?_
 ·intro h1
  cbv
 ·intro h1
  exfalso
  subst hE
  have h:std.ic .gtr (std.sz mag) 7=false:=h1
  simp at h
  omega
theorem little_yes (neg:Bool) (mag:ByteArray) (h:mag.size<=7):Con Tryz.prog 216 [.v (zR neg mag)] (.v (.tuple #[.int .i64 (zval neg mag),.bool true])):=by
 obtain ⟨r,hr⟩:∃ r,r=zval neg mag:=⟨_,rfl⟩
 rw [<-hr]
 unfold zR
 refine Con.of ttOk mixed Tryz.func216 {} .nil 0 (by kernel_rfl) (fun P' E hP hE=>?_)
 obtain ⟨i0,hi0⟩:∃ i:Int,i=0:=⟨_,rfl⟩
 have hz:WInv mag i0 i0:=by subst hi0; exact ⟨by omega,by omega,rfl⟩
 have hfin:∀ i n:Int,WInv mag i n->¬ i < mag.size->n=bv mag/\0<=n/\n < 72057594037927936:=by
  intro i n q hi
  have q1:=q.i1
  have q0:=q.i0
  have e:n=bv mag:=by
   rw [q.v,List.take_of_length_le (by rw [<-dg_size]; omega)]; rfl
  have b:=q.bound
  have h1:(256:Nat) ^ i.toNat<=256 ^ 7:=pow256_mono (by omega)
  have h2:(256:Nat) ^ 7=72057594037927936:=by decide
  exact ⟨e,by omega,by omega⟩
 cbv
 refine fork.mk ?_ ?_
 ·intro h1
  exfalso
  subst hE
  have h:std.ic .gtr (std.sz mag) 7=true:=h1
  simp at h
  omega
 ·intro h1
  cbv
  refine LoopTo.by (ι:=Int × Int) (fun x=>[(13,.v (.int .i64 x.1)),(4,.v (.int .i64 x.2))]) (fun x=>[]) (fun x=>WInv mag x.1 x.2) (fun x=>((mag.size:Int) - x.1).toNat) (i0,i0) [] hz ?_ ?_
  ·cbv
   subst hE
   and_intros
   all_goals first
    | exact congrArg (Value.int _) hi0.symm
    | (simp; done)
  ·rintro ⟨i,n⟩ hi
   have hi:WInv mag i n:=hi
   have hi00:=hi.i0
   cbv
   refine fork.mk ?_ ?_
   ·intro h2
    have hlt:i < mag.size:=by
     subst hE
     have h:std.ic .lss i (std.sz mag)=true:=h2
     simpa using h
    have q:=hi.step h hlt
    refine exVar (n*256+(((dg mag).getD i.toNat 0).toNat:Int)) ?_
    intro n' hn'
    refine exVar (i+1) ?_
    intro i' hi'
    have q1:std.ib .or .i64 (std.ib .shl .i64 n 8) (std.cv .i64 (std.sa mag i))=n':=by rw [hn']; exact q.1
    have q2:WInv mag i' n':=by rw [hn',hi']; exact q.2
    have hii:std.ib .add .i64 i 1=i':=by rw [s_add,w64 (by omega) (by omega),hi']
    have hin:std.inb i (std.sz mag):=by rw [s_inb,s_sz]; exact ⟨hi00,hlt⟩
    have hmu:((mag.size:Int) - i').toNat < ((mag.size:Int) - i).toNat:=by omega
    clear hn' q
    cbv
    refine ⟨by subst hE; simp,?_⟩
    cbv
    refine ⟨by subst hE; exact hin,?_⟩
    cbv
    refine ⟨(i',n'),[],q2,hmu,?_⟩
    cbv
    subst hE
    and_intros
    all_goals first
     | exact vi q1
     | exact vi hii
     | (simp; done)
   ·intro h2
    have hlt:¬ i < mag.size:=by
     subst hE
     have h:std.ic .lss i (std.sz mag)=false:=h2
     simpa using h
    have q:=hfin i n hi hlt
    have rn:neg=true->std.un .neg .i64 n=r:=fun c=>by
     rw [s_neg,w64 (by omega) (by omega),hr,zval,c,if_pos rfl,q.1,Int.zero_sub]
    have rp:neg=false->n=r:=fun c=>by
     rw [hr,zval,c,q.1]; rfl
    clear hr
    cbv
    refine fork.mk ?_ ?_
    ·intro h3
     cbv
     subst hE
     exact congrArg (fun x=>Value.tuple #[.int .i64 x,.bool true]) (rn h3)
    ·intro h3
     cbv
     subst hE
     exact congrArg (fun x=>Value.tuple #[.int .i64 x,.bool true]) (rp h3)
theorem zval_small (neg:Bool) (mag:ByteArray) (h:mag.size<=7) : -72057594037927936 < zval neg mag/\zval neg mag < 72057594037927936:=by
 have h1:=bv_lt mag
 have h2:(256:Nat) ^ mag.size<=256 ^ 7:=pow256_mono h
 have h3:(256:Nat) ^ 7=72057594037927936:=by decide
 unfold zval
 cases neg
 ·simp; omega
 ·simp; omega
theorem little_ex (neg:Bool) (mag:ByteArray):∃ v f,Con Tryz.prog 216 [.v (zR neg mag)] (.v (.tuple #[.int .i64 v,.bool f]))/\(f=true->v=zval neg mag /\ -72057594037927936 < v/\v < 72057594037927936):=by
 by_cases h:mag.size<=7
 ·exact ⟨_,true,little_yes neg mag h,fun _=>⟨rfl,zval_small neg mag h⟩⟩
 ·exact ⟨0,false,little_no neg mag (by omega),fun h=>by cases h⟩
theorem tk_len (xs:List Int):std.tk Int xs (std.len Int xs)=xs:=by rw [s_tk,s_len,List.take_of_length_le (by omega)]
theorem add_con (na nb:Bool) (ma mb:ByteArray) (ha:ma.size<=4294967296) (hb:mb.size<=4294967296):Con Tryz.prog 133 [.v (zR na ma),.v (zR nb mb)] (.v (zV (zval na ma+zval nb mb))):=by
 obtain ⟨va,fa,la,ga⟩:=little_ex na ma
 obtain ⟨vb,fb,lb',gb⟩:=little_ex nb mb
 have ho:fa=true->fb=true->Con Tryz.prog 122 [.v (.int .i64 (va+vb))] (.v (zV (zval na ma+zval nb mb))):=fun h1 h2=>by
  have q1:=ga h1
  have q2:=gb h2
  rw [<-q1.1,<-q2.1]
  exact of_con _ (by omega) (by omega)
 have hsum:fa=true->fb=true->std.ib .add .i64 va vb=va+vb:=fun h1 h2=>by
  have q1:=ga h1
  have q2:=gb h2
  rw [s_add,w64 (by omega) (by omega)]
 have qa:=lb_le_bytes (bv_lt ma)
 have qb:=lb_le_bytes (bv_lt mb)
 have hla:=load_con ma (by omega)
 have hlb:=load_con mb (by omega)
 have ht:=plus_con (bv ma) (bv mb) (by omega) (by omega)
 have hc:=compare_con (bv ma) (bv mb) (by omega) (by omega)
 have hlen:∀ n m:Nat,n<=m->(lb n).length<=(lb m).length:=fun n m h=>by
  refine Decidable.byContradiction fun c=>?_
  have:=cmp_len (a:=m) (b:=n) (by omega)
  omega
 have hp1:na=nb->Con Tryz.prog 207 [.v (.bool na),.ro cU (lb (bv ma+bv mb))] (.v (zV (zval na ma+zval nb mb))):=fun h=>by
  have hs:bv ma+bv mb < 256 ^ (ma.size+mb.size+1):=by
   have h1:=bv_lt ma
   have h2:=bv_lt mb
   have h3:=pow256_mono (show ma.size<=ma.size+mb.size by omega)
   have h4:=pow256_mono (show mb.size<=ma.size+mb.size by omega)
   rw [Nat.pow_succ]
   generalize (256:Nat) ^ (ma.size+mb.size)=p at *
   omega
  have hp:=pack_con na (lb (bv ma+bv mb)) (lb_ok _) (by have:=lb_le_bytes hs; omega)
  rw [val_lb] at hp
  have e:(if na=true then -((bv ma+bv mb:Nat):Int) else ((bv ma+bv mb:Nat):Int))=zval na ma+zval nb mb:=by
   subst h
   unfold zval
   cases na
   ·simp
   ·simp; omega
  rw [e] at hp
  exact hp
 have hp2:na ≠ nb->cmpI (bv ma) (bv mb) < 0->Con Tryz.prog 207 [.v (.bool nb),.ro cU (lb (bv mb - bv ma))] (.v (zV (zval na ma+zval nb mb))):=fun h h'=>by
  have hlt:bv ma < bv mb:=by
   unfold cmpI at h'
   split at h'
   ·omega
   ·split at h'<;>omega
  have hp:=pack_con nb (lb (bv mb - bv ma)) (lb_ok _) (by have:=hlen (bv mb - bv ma) (bv mb) (by omega); omega)
  rw [val_lb] at hp
  have e:(if nb=true then -((bv mb - bv ma:Nat):Int) else ((bv mb - bv ma:Nat):Int))=zval na ma+zval nb mb:=by
   unfold zval
   cases na<;>cases nb<;>first | exact absurd rfl h | (simp; omega)
  rw [e] at hp
  exact hp
 have hp3:na ≠ nb->¬ cmpI (bv ma) (bv mb) < 0->Con Tryz.prog 207 [.v (.bool na),.ro cU (lb (bv ma - bv mb))] (.v (zV (zval na ma+zval nb mb))):=fun h h'=>by
  have hlt:bv mb<=bv ma:=by
   refine Decidable.byContradiction fun c=>h' ?_
   rw [cmpI,if_pos (by omega)]; omega
  have hp:=pack_con na (lb (bv ma - bv mb)) (lb_ok _) (by have:=hlen (bv ma - bv mb) (bv ma) (by omega); omega)
  rw [val_lb] at hp
  have e:(if na=true then -((bv ma - bv mb:Nat):Int) else ((bv ma - bv mb:Nat):Int))=zval na ma+zval nb mb:=by
   unfold zval
   cases na<;>cases nb<;>first | exact absurd rfl h | (simp; omega)
  rw [e] at hp
  exact hp
 have hm2:cmpI (bv ma) (bv mb) < 0->Con Tryz.prog 219 [.ro cU (lb (bv mb)),.ro cU (lb (bv ma))] (.own 195 cU (lb (bv mb - bv ma))):=fun h'=>by
  have hlt:bv ma < bv mb:=by
   unfold cmpI at h'
   split at h'
   ·omega
   ·split at h'<;>omega
  exact minus_con _ _ (by omega) (by omega)
 have hm3:¬ cmpI (bv ma) (bv mb) < 0->Con Tryz.prog 219 [.ro cU (lb (bv ma)),.ro cU (lb (bv mb))] (.own 195 cU (lb (bv ma - bv mb))):=fun h'=>by
  have hlt:bv mb<=bv ma:=by
   refine Decidable.byContradiction fun c=>h' ?_
   rw [cmpI,if_pos (by omega)]; omega
  exact minus_con _ _ (by omega) hlt
 obtain ⟨c,hcc⟩:∃ c,c=cmpI (bv ma) (bv mb):=⟨_,rfl⟩
 rw [<-hcc] at hc hp2 hp3 hm2 hm3
 obtain ⟨xs,hxs⟩:∃ x,x=lb (bv ma):=⟨_,rfl⟩
 obtain ⟨ys,hys⟩:∃ x,x=lb (bv mb):=⟨_,rfl⟩
 obtain ⟨x1,hx1⟩:∃ x,x=lb (bv ma+bv mb):=⟨_,rfl⟩
 obtain ⟨x2,hx2⟩:∃ x,x=lb (bv mb - bv ma):=⟨_,rfl⟩
 obtain ⟨x3,hx3⟩:∃ x,x=lb (bv ma - bv mb):=⟨_,rfl⟩
 rw [<-hxs] at hla
 rw [<-hys] at hlb
 rw [<-hxs,<-hys] at hc hm2 hm3
 rw [<-hxs,<-hys,<-hx1] at ht
 rw [<-hx1] at hp1
 rw [<-hx2] at hp2 hm2
 rw [<-hx3] at hp3 hm3
 obtain ⟨sg,m,hz⟩:=zV_ex (zval na ma+zval nb mb)
 rw [hz] at hp1 hp2 hp3 ho
 rw [hz]
 obtain ⟨vs,hvs⟩:∃ x,x=va+vb:=⟨_,rfl⟩
 rw [<-hvs] at ho hsum
 clear hxs hys hx1 hx2 hx3 hcc hz ga gb hvs qa qb hlen
 have hlx:=tk_len xs
 have hly:=tk_len ys
 have hls:=tk_len x1
 have hl2:=tk_len x2
 have hl3:=tk_len x3
 unfold zR at la lb' ⊢
 refine Con.of ttOk mixed Tryz.func133 { ord:=[(6,[0,1,3,4,2,5,6,7]),(8,List.range 7),(10,List.range 7),(11,List.range 7)] } .nil 0 (by kernel_rfl) (fun P' E hP hE=>?_)
 cbv
 refine CallTo.con hP hE la (by subst hE; exact ⟨rfl,trivial⟩) ?_
 cbv
 refine fork.mk ?_ ?_
 ·intro h1
  cbv
  refine CallTo.con hP hE lb' (by subst hE; exact ⟨rfl,trivial⟩) ?_
  cbv
  refine fork.mk ?_ ?_
  ·intro h2
   have hq:=ho h1 h2
   have he:=hsum h1 h2
   cbv
   refine CallTo.con hP hE hq (by subst hE; exact ⟨congrArg (Value.int .i64) he,trivial⟩) ?_
   cbv
  ·intro h2
   cbv
   refine CallTo.con hP hE hla (by subst hE; exact ⟨rfl,trivial⟩) ?_
   cbv
   refine CallTo.con hP hE hlb (by subst hE; exact ⟨rfl,trivial⟩) ?_
   cbv
   refine fork.mk ?_ ?_
   ·intro c1
    have c1':na=nb:=by
     subst hE
     have h:(na == nb)=true:=c1
     simpa using h
    have hq:=hp1 c1'
    cbv
    refine CallTo.con hP hE ht (by subst hE; exact ⟨Sm.of hlx,Sm.of hly,trivial⟩) ?_
    cbv
    refine CallTo.con hP hE hq (by subst hE; exact ⟨rfl,Sm.of hls,trivial⟩) ?_
    cbv
   ·intro c1
    have c1':na ≠ nb:=by
     subst hE
     have h:(na == nb)=false:=c1
     simpa using h
    cbv
    refine CallTo.con hP hE hc (by subst hE; exact ⟨Sm.of hlx,Sm.of hly,trivial⟩) ?_
    cbv
    refine fork.mk ?_ ?_
    ·intro c2
     have c2':c < 0:=by
      subst hE
      have h:std.ic .lss c 0=true:=c2
      simpa using h
     have hm:=hm2 c2'
     have hq:=hp2 c1' c2'
     cbv
     refine CallTo.con hP hE hm (by subst hE; exact ⟨Sm.of hly,Sm.of hlx,trivial⟩) ?_
     cbv
     refine CallTo.con hP hE hq (by subst hE; exact ⟨rfl,Sm.of hl2,trivial⟩) ?_
     cbv
    ·intro c2
     have c2':¬ c < 0:=by
      subst hE
      have h:std.ic .lss c 0=false:=c2
      simpa using h
     have hm:=hm3 c2'
     have hq:=hp3 c1' c2'
     cbv
     refine CallTo.con hP hE hm (by subst hE; exact ⟨Sm.of hlx,Sm.of hly,trivial⟩) ?_
     cbv
     refine CallTo.con hP hE hq (by subst hE; exact ⟨rfl,Sm.of hl3,trivial⟩) ?_
     cbv
 ·intro h1
  cbv
  refine CallTo.con hP hE hla (by subst hE; exact ⟨rfl,trivial⟩) ?_
  cbv
  refine CallTo.con hP hE hlb (by subst hE; exact ⟨rfl,trivial⟩) ?_
  cbv
  refine fork.mk ?_ ?_
  ·intro c1
   have c1':na=nb:=by
    subst hE
    have h:(na == nb)=true:=c1
    simpa using h
   have hq:=hp1 c1'
   cbv
   refine CallTo.con hP hE ht (by subst hE; exact ⟨Sm.of hlx,Sm.of hly,trivial⟩) ?_
   cbv
   refine CallTo.con hP hE hq (by subst hE; exact ⟨rfl,Sm.of hls,trivial⟩) ?_
   cbv
  ·intro c1
   have c1':na ≠ nb:=by
    subst hE
    have h:(na == nb)=false:=c1
    simpa using h
   cbv
   refine CallTo.con hP hE hc (by subst hE; exact ⟨Sm.of hlx,Sm.of hly,trivial⟩) ?_
   cbv
   refine fork.mk ?_ ?_
   ·intro c2
    have c2':c < 0:=by
     subst hE
     have h:std.ic .lss c 0=true:=c2
     simpa using h
    have hm:=hm2 c2'
    have hq:=hp2 c1' c2'
    cbv
    refine CallTo.con hP hE hm (by subst hE; exact ⟨Sm.of hly,Sm.of hlx,trivial⟩) ?_
    cbv
    refine CallTo.con hP hE hq (by subst hE; exact ⟨rfl,Sm.of hl2,trivial⟩) ?_
    cbv
   ·intro c2
    have c2':¬ c < 0:=by
     subst hE
     have h:std.ic .lss c 0=false:=c2
     simpa using h
    have hm:=hm3 c2'
    have hq:=hp3 c1' c2'
    cbv
    refine CallTo.con hP hE hm (by subst hE; exact ⟨Sm.of hlx,Sm.of hly,trivial⟩) ?_
    cbv
    refine CallTo.con hP hE hq (by subst hE; exact ⟨rfl,Sm.of hl3,trivial⟩) ?_
    cbv
theorem zval_not (nb:Bool) (mb:ByteArray):zval (!nb) mb = - zval nb mb:=by
 unfold zval; cases nb<;>simp
theorem compare_z (na nb:Bool) (ma mb:ByteArray) (ha:ma.size<=4294967296) (hb:mb.size<=4294967296):Con Tryz.prog 189 [.v (zR na ma),.v (zR nb mb)] (.v (.int .i64 (cmpI (zval na ma) (zval nb mb)))):=by
 have qa:=lb_le_bytes (bv_lt ma)
 have qb:=lb_le_bytes (bv_lt mb)
 have hla:=load_con ma (by omega)
 have hlb:=load_con mb (by omega)
 have hab:=compare_con (bv ma) (bv mb) (by omega) (by omega)
 have hba:=compare_con (bv mb) (bv ma) (by omega) (by omega)
 have pos:∀ n:Nat,std.ic .gtr (std.len Int (lb n)) 0=decide (0 < n):=fun n=>by
  rw [s_gtr,s_len]
  refine decide_eq_decide.2 ?_
  by_cases c:n=0
  ·subst c; rw [lb_zero]; simp
  ·have:=lb_len_ge (n:=n) (k:=0) (by omega)
   omega
 have c1:na=true->0 < bv ma->nb=true->0 < bv mb->cmpI (bv mb) (bv ma)=cmpI (zval na ma) (zval nb mb):=fun a b c d=>by
  subst a; subst c; unfold zval cmpI; simp only [if_true]; repeat' split<;>omega
 have c2:na=true->0 < bv ma->¬ (nb=true/\0 < bv mb) -> -1=cmpI (zval na ma) (zval nb mb):=fun a b c=>by
  subst a; unfold zval cmpI; cases nb
  ·simp only [if_true]; rw [if_pos (by simp; omega)]
  ·have:bv mb=0:=by simp at c; omega
   simp only [if_true]; rw [if_pos (by omega)]
 have c3:¬ (na=true/\0 < bv ma)->nb=true->0 < bv mb->1=cmpI (zval na ma) (zval nb mb):=fun a b c=>by
  subst b; unfold zval cmpI; cases na
  ·simp only [if_true]; rw [if_neg (by simp),if_pos (by simp; omega)]
  ·have:bv ma=0:=by simp at a; omega
   simp only [if_true]; rw [if_neg (by omega),if_pos (by omega)]
 have c4:¬ (na=true/\0 < bv ma)->¬ (nb=true/\0 < bv mb)->cmpI (bv ma) (bv mb)=cmpI (zval na ma) (zval nb mb):=fun a b=>by
  have ea:zval na ma=bv ma:=by
   unfold zval; cases na
   ·simp
   ·simp at a; simp [a]
  have eb:zval nb mb=bv mb:=by
   unfold zval; cases nb
   ·simp
   ·simp at b; simp [b]
  rw [ea,eb]
 obtain ⟨r,hr⟩:∃ r,r=cmpI (zval na ma) (zval nb mb):=⟨_,rfl⟩
 rw [<-hr] at c1 c2 c3 c4
 rw [<-hr]
 obtain ⟨r1,hr1⟩:∃ r,r=cmpI (bv ma) (bv mb):=⟨_,rfl⟩
 obtain ⟨r2,hr2⟩:∃ r,r=cmpI (bv mb) (bv ma):=⟨_,rfl⟩
 rw [<-hr1] at c4 hab
 rw [<-hr2] at c1 hba
 have pa:=pos (bv ma)
 have pb:=pos (bv mb)
 obtain ⟨xs,hxs⟩:∃ x,x=lb (bv ma):=⟨_,rfl⟩
 obtain ⟨ys,hys⟩:∃ x,x=lb (bv mb):=⟨_,rfl⟩
 rw [<-hxs] at hla pa
 rw [<-hys] at hlb pb
 rw [<-hxs,<-hys] at hab hba
 obtain ⟨A,hA⟩:∃ x,x=(0 < bv ma):=⟨_,rfl⟩
 obtain ⟨B,hB⟩:∃ x,x=(0 < bv mb):=⟨_,rfl⟩
 have pa:std.ic .gtr (std.len Int xs) 0=true ↔ A:=by rw [pa,hA]; exact decide_eq_true_iff
 have pb:std.ic .gtr (std.len Int ys) 0=true ↔ B:=by rw [pb,hB]; exact decide_eq_true_iff
 rw [<-hA,<-hB] at c1
 rw [<-hA,<-hB] at c2
 rw [<-hA,<-hB] at c3
 rw [<-hA,<-hB] at c4
 clear hr hr1 hr2 hxs hys hA hB pos qa qb
 have hlx:=tk_len xs
 have hly:=tk_len ys
 unfold zR
 refine Con.of ttOk mixed Tryz.func189 { ord:=[(1,[0,1,3,4,2,5,6,7])] } .nil 0 (by kernel_rfl) (fun P' E hP hE=>?_)
 cbv
 refine CallTo.con hP hE hla (by subst hE; exact ⟨rfl,trivial⟩) ?_
 cbv
 refine CallTo.con hP hE hlb (by subst hE; exact ⟨rfl,trivial⟩) ?_
 cbv
 refine fork.mk ?_ ?_
 ·intro g1
  cbv
  refine fork.mk ?_ ?_
  ·intro g2
   cbv
   refine fork.mk ?_ ?_
   ·intro p
    cbv
    refine fork.mk ?_ ?_
    ·intro q
     have ha:A:=by
      subst hE
      exact pa.1 p
     have hb:B:=by
      subst hE
      exact pb.1 q
     have er:=c1 g1 ha g2 hb
     cbv
     refine CallTo.con hP hE hba (by subst hE; exact ⟨Sm.of hly,Sm.of hlx,trivial⟩) ?_
     cbv
     exact congrArg (Value.int .i64) er
    ·intro q
     have ha:A:=by
      subst hE
      exact pa.1 p
     have hb:¬ B:=by
      subst hE
      intro h
      have h2:true=false:=(pb.2 h).symm.trans q
      cases h2
     cbv
     refine fork.mk ?_ ?_
     ·intro p2
      cbv
      exact congrArg (Value.int .i64) (c2 g1 ha (fun h=>hb h.2))
     ·intro p2
      exfalso
      have h2:true=false:=(p).symm.trans p2
      cases h2
   ·intro p
    have ha:¬ A:=by
     subst hE
     intro h
     have h2:true=false:=(pa.2 h).symm.trans p
     cases h2
    cbv
    refine fork.mk ?_ ?_
    ·intro p2
     exfalso
     have h2:true=false:=(p2).symm.trans p
     cases h2
    ·intro p2
     cbv
     refine fork.mk ?_ ?_
     ·intro q
      have hb:B:=by
       subst hE
       exact pb.1 q
      cbv
      exact congrArg (Value.int .i64) (c3 (fun h=>ha h.2) g2 hb)
     ·intro q
      have hb:¬ B:=by
       subst hE
       intro h
       have h2:true=false:=(pb.2 h).symm.trans q
       cases h2
      have er:=c4 (fun h=>ha h.2) (fun h=>hb h.2)
      cbv
      refine CallTo.con hP hE hab (by subst hE; exact ⟨Sm.of hlx,Sm.of hly,trivial⟩) ?_
      cbv
      exact congrArg (Value.int .i64) er
  ·intro g2
   cbv
   refine fork.mk ?_ ?_
   ·intro p
    have ha:A:=by
     subst hE
     exact pa.1 p
    cbv
    refine fork.mk ?_ ?_
    ·intro p2
     cbv
     exact congrArg (Value.int .i64) (c2 g1 ha (fun h=>by have h2:true=false:=h.1.symm.trans g2; cases h2))
    ·intro p2
     exfalso
     have h2:true=false:=(p).symm.trans p2
     cases h2
   ·intro p
    have ha:¬ A:=by
     subst hE
     intro h
     have h2:true=false:=(pa.2 h).symm.trans p
     cases h2
    cbv
    refine fork.mk ?_ ?_
    ·intro p2
     exfalso
     have h2:true=false:=(p2).symm.trans p
     cases h2
    ·intro p2
     have er:=c4 (fun h=>ha h.2) (fun h=>by have h2:true=false:=h.1.symm.trans g2; cases h2)
     cbv
     refine CallTo.con hP hE hab (by subst hE; exact ⟨Sm.of hlx,Sm.of hly,trivial⟩) ?_
     cbv
     exact congrArg (Value.int .i64) er
 ·intro g1
  cbv
  refine fork.mk ?_ ?_
  ·intro g2
   cbv
   refine fork.mk ?_ ?_
   ·intro q
    have hb:B:=by
     subst hE
     exact pb.1 q
    cbv
    exact congrArg (Value.int .i64) (c3 (fun h=>by have h2:true=false:=h.1.symm.trans g1; cases h2) g2 hb)
   ·intro q
    have hb:¬ B:=by
     subst hE
     intro h
     have h2:true=false:=(pb.2 h).symm.trans q
     cases h2
    have er:=c4 (fun h=>by have h2:true=false:=h.1.symm.trans g1; cases h2) (fun h=>hb h.2)
    cbv
    refine CallTo.con hP hE hab (by subst hE; exact ⟨Sm.of hlx,Sm.of hly,trivial⟩) ?_
    cbv
    exact congrArg (Value.int .i64) er
  ·intro g2
   have er:=c4 (fun h=>by have h2:true=false:=h.1.symm.trans g1; cases h2) (fun h=>by have h2:true=false:=h.1.symm.trans g2; cases h2)
   cbv
   refine CallTo.con hP hE hab (by subst hE; exact ⟨Sm.of hlx,Sm.of hly,trivial⟩) ?_
   cbv
   exact congrArg (Value.int .i64) er
theorem lb_mono {n m:Nat} (h:n<=m):(lb n).length<=(lb m).length:=by
 refine Decidable.byContradiction fun c=>?_
 have:=cmp_len (a:=m) (b:=n) (by omega)
 omega
/-- Euclid's pair. -/
structure EInv (g:Nat) (x y:List Int) (lx ly:Int):Prop where
 ex:x=lb (val x).toNat
 ey:y=lb (val y).toNat
 elx:lx=x.length
 ely:ly=y.length
 eg:Nat.gcd (val x).toNat (val y).toNat=g
 bx:x.length<=137438953470
 by_:y.length<=137438953470
theorem EInv.of {g a b:Nat} {x y:List Int} {lx ly:Int} (hx:x=lb a) (hy:y=lb b) (hlx:lx=x.length) (hly:ly=y.length) (hg:Nat.gcd a b=g) (h1:x.length<=137438953470) (h2:y.length<=137438953470):EInv g x y lx ly:=by
 have e1:(val x).toNat=a:=by rw [hx,val_lb]; rfl
 have e2:(val y).toNat=b:=by rw [hy,val_lb]; rfl
 exact ⟨by rw [e1]; exact hx,by rw [e2]; exact hy,hlx,hly,by rw [e1,e2]; exact hg,h1,h2⟩
theorem EInv.pos {g:Nat} {x y:List Int} {lx ly:Int} (h:EInv g x y lx ly):(0 < ly->0 < (val y).toNat)/\(¬ 0 < ly->val x=g/\Ok32 x):=by
 have hl:=h.ely
 constructor
 ·intro c
  refine Decidable.byContradiction fun d=>?_
  have e:(val y).toNat=0:=by omega
  have:=h.ey
  rw [e,lb_zero] at this
  rw [this] at hl
  simp at hl
  omega
 ·intro c
  have e:y=[]:=List.eq_nil_of_length_eq_zero (by omega)
  have hg:=h.eg
  have e2:(val y).toNat=0:=by rw [e]; rfl
  rw [e2,Nat.gcd_zero_right] at hg
  have hok:Ok32 x:=by rw [h.ex]; exact lb_ok _
  have:=val_nonneg hok
  exact ⟨by omega,hok⟩
/-- One step of it, where the first number is less. -/
theorem EInv.swap {g:Nat} {x y:List Int} {lx ly:Int} (h:EInv g x y lx ly) (hlt:(val x).toNat < (val y).toNat):EInv g y x ly lx/\Con Tryz.prog 281 [.ro cU x,.ro cU y] (.tup [.ro cU [],.arg 0 lx]):=by
 refine ⟨⟨h.ey,h.ex,h.ely,h.elx,by rw [Nat.gcd_comm]; exact h.eg,h.by_,h.bx⟩,?_⟩
 have hx:=h.ex
 have hy:=h.ey
 have hl:=h.elx
 have bx:=h.bx
 have by':=h.by_
 generalize (val x).toNat=a at *
 generalize (val y).toNat=b at *
 subst hx; subst hy; subst hl
 exact divide_lt a b hlt (by omega) (by omega)
/-- One step of it, where the first number is not less. -/
theorem EInv.step {g:Nat} {x y:List Int} {lx ly:Int} (h:EInv g x y lx ly) (hp:0 < (val y).toNat) (hge:(val y).toNat<=(val x).toNat):∃ q r lr,EInv g y r ly lr/\(val r).toNat < (val y).toNat/\lr=r.length/\Con Tryz.prog 281 [.ro cU x,.ro cU y] (.tup [.ro cU q,.ro cU r]):=by
 have hx:=h.ex
 have hy:=h.ey
 have hl:=h.elx
 have hg:=h.eg
 have bx:=h.bx
 have hly:=h.ely
 have by':=h.by_
 have hm:=Nat.mod_lt (val x).toNat hp
 refine ⟨lb ((val x).toNat / (val y).toNat),lb ((val x).toNat % (val y).toNat),(lb ((val x).toNat % (val y).toNat)).length,EInv.of (a:=(val y).toNat) (b:=(val x).toNat % (val y).toNat) hy rfl hly rfl ?_ by' ?_,by rw [val_lb]; omega,rfl,?_⟩
 ·rw [Nat.gcd_comm,<-Nat.gcd_rec,Nat.gcd_comm]; exact hg
 ·have h1:=lb_mono (Nat.le_of_lt hm)
  rw [<-hy] at h1
  omega
 ·have q:=divide_ge (val x).toNat (val y).toNat hge hp (by rw [<-hx]; omega)
  rw [<-hx,<-hy] at q
  exact q
theorem gcd_con (na nb:Bool) (ma mb:ByteArray) (ha:ma.size<=4294967296) (hb:mb.size<=4294967296):Con Tryz.prog 212 [.v (zR na ma),.v (zR nb mb)] (.v (zV (Nat.gcd (bv ma) (bv mb):Nat))):=by
 have qa:=lb_le_bytes (bv_lt ma)
 have qb:=lb_le_bytes (bv_lt mb)
 have hla:=load_con ma (by omega)
 have hlb:=load_con mb (by omega)
 have hE0:=EInv.of (a:=bv ma) (b:=bv mb) (lx:=(lb (bv ma)).length) (ly:=(lb (bv mb)).length) rfl rfl rfl rfl rfl (by omega) (by omega)
 obtain ⟨xs,hxs⟩:∃ x,x=lb (bv ma):=⟨_,rfl⟩
 obtain ⟨ys,hys⟩:∃ x,x=lb (bv mb):=⟨_,rfl⟩
 rw [<-hxs,<-hys] at hE0
 rw [<-hxs] at hla
 rw [<-hys] at hlb
 obtain ⟨g,hg⟩:∃ g,g=Nat.gcd (bv ma) (bv mb):=⟨_,rfl⟩
 rw [<-hg] at hE0 ⊢
 obtain ⟨lx0,hlx0⟩:∃ g:Int,g=xs.length:=⟨_,rfl⟩
 obtain ⟨ly0,hly0⟩:∃ g:Int,g=ys.length:=⟨_,rfl⟩
 rw [<-hlx0,<-hly0] at hE0
 have hpk:∀ x:List Int,Ok32 x->x.length<=137438953470->val x=g->Con Tryz.prog 207 [.v (.bool false),.ro cU x] (.v (zV (g:Int))):=fun x h1 h2 h3=>by
  have:=pack_con false x h1 (by omega)
  rw [h3] at this
  exact this
 obtain ⟨sg,m,hz⟩:=zV_ex (g:Int)
 rw [hz] at hpk
 rw [hz]
 clear hxs hys hz hg qa qb
 have tl:∀ (x:List Int) (l:Int),l=x.length->std.tk Int x l=x:=fun x l h=>by rw [s_tk,List.take_of_length_le (by omega)]
 unfold zR
 refine Con.of ttOk mixed Tryz.func212 { ord:=[(1,[0,1,3,4,2,5,6,7])] } .nil 0 (by kernel_rfl) (fun P' E hP hE=>?_)
 have hla1:std.len Int xs=lx0:=hlx0.symm
 have hlb1:std.len Int ys=ly0:=hly0.symm
 clear hlx0 hly0
 cbv
 refine CallTo.con hP hE hla (by subst hE; exact ⟨rfl,trivial⟩) ?_
 cbv
 refine CallTo.con hP hE hlb (by subst hE; exact ⟨rfl,trivial⟩) ?_
 cbv
 refine LoopTo.by (ι:=List Int × Int × List Int × Int) (fun x=>[(5,.s 5 x.2.1),(6,.s 6 x.2.2.2),(11,.any),(14,.any)]) (fun x=>[(5,.row false 0 cU x.1),(6,.row false 0 cU x.2.2.1)]) (fun x=>EInv g x.1 x.2.2.1 x.2.1 x.2.2.2) (fun x=>(val x.2.2.1).toNat) (xs,lx0,ys,ly0) [] hE0 ?_ ?_
 ·cbv
  subst hE
  and_intros
  all_goals first
   | exact congrArg (AV.s 5) hla1
   | exact congrArg (AV.s 6) hlb1
   | (simp; done)
 ·rintro ⟨x,lx,y,ly⟩ hi
  have hi:EInv g x y lx ly:=hi
  have hlx:=tl x lx hi.elx
  have hly:=tl y ly hi.ely
  have hpos:=hi.pos
  cbv
  refine fork.mk ?_ ?_
  ·intro c1
   have c1':0 < ly:=by
    subst hE
    have h:std.ic .gtr ly 0=true:=c1
    simpa using h
   have hp:=hpos.1 c1'
   by_cases hlt:(val x).toNat < (val y).toNat
   ·have hs:=hi.swap hlt
    have hc:=hs.2
    cbv
    refine CallTo.con hP hE hc (by subst hE; exact ⟨Sm.of hlx,Sm.of hly,trivial⟩) ?_
    cbv
    refine ⟨(y,ly,x,lx),[0,1,2,3,4,6,5],hs.1,hlt,?_⟩
    cbv
    subst hE
    and_intros
    all_goals first
     | (simp; done)
   ·refine Exists.elim (hi.step hp (by omega)) ?_
    intro q h1
    refine Exists.elim h1 ?_
    intro r h2
    refine Exists.elim h2 ?_
    intro lr h3
    have hc:=h3.2.2.2
    have hlr:std.len Int r=lr:=h3.2.2.1.symm
    cbv
    refine CallTo.con hP hE hc (by subst hE; exact ⟨Sm.of hlx,Sm.of hly,trivial⟩) ?_
    cbv
    refine ⟨(y,ly,r,lr),[0,1,2,3,4,6,8],h3.1,h3.2.1,?_⟩
    cbv
    subst hE
    and_intros
    all_goals first
     | exact congrArg (AV.s 8) hlr
     | (simp; done)
  ·intro c1
   have c1':¬ 0 < ly:=by
    subst hE
    have h:std.ic .gtr ly 0=false:=c1
    simpa using h
   have hq:=hpos.2 c1'
   have hc:=hpk x hq.2 hi.bx hq.1
   cbv
   refine CallTo.con hP hE hc (by subst hE; exact ⟨rfl,Sm.of hlx,trivial⟩) ?_
   cbv
end Go.Proofs.YtkipmmiiackdaaaGreat.Sx
