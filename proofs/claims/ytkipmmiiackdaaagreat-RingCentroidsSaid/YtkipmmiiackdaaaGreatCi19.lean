/- Part 19 of what the statement needs: an executor of Go texts, arithmetic, and contracts of the functions that are called. -/
import Derived.Test.YtkipmmiiackdaaaGreatCi18
set_option linter.unusedSimpArgs false
set_option linter.unusedVariables false
set_option maxHeartbeats 8000000
set_option maxRecDepth 100000
namespace Go.Proofs.YtkipmmiiackdaaaGreat.Sx
open Env (std)
/-- All ends of a drawn region are told as one sort of state: which slots and blocks it tells of, what is new. -/
theorem DrawTo.by {κ:Type} {P:Program} {m:Nat} {c:Unit->Code} {B:Unit->(X->St->Prop)->Prop} {K:X->St->Prop} {s:St} (chg:κ->List (Nat × AV)) (hc:κ->List (Nat × Blk)) (add:κ->List Blk) (q:κ->Prop)
  (hb:B () (fun x s'=>match x with
   | .n=>∃ k r,q k/\St.le m r s' ⟨setAll (anyAll s.t (dsts (c ()))) (chg k),setAll s.h (hc k)++add k⟩
   | x=>K x s'))
  (hk:∀ k,q k->K .n ⟨setAll (anyAll s.t (dsts (c ()))) (chg k),setAll s.h (hc k)++add k⟩):DrawTo P m c B K s:=
 DrawTo.merge (fun k=>⟨setAll (anyAll s.t (dsts (c ()))) (chg k),setAll s.h (hc k)++add k⟩) q hb hk
def ordT185:List (Nat × Ot):=[(5,.op 0 (.op 1 (.op 2 (.op 3 (.op 4 (.op 5 (.op 7 (.op 8 (.op 9 (.br 6 (.br 10 (.br 11 (.op 12 (.op 13 (.op 14 .nil))) (.br 12 (.op 11 (.op 13 (.op 14 .nil))) .stop)) (.br 11 (.br 10 (.op 12 (.op 13 (.op 14 .nil))) (.br 12 (.op 10 (.op 13 (.op 14 .nil))) .stop)) (.br 12 (.br 10 (.op 11 (.op 13 (.op 14 .nil))) (.br 11 (.op 10 (.op 13 (.op 14 .nil))) .stop)) .stop))) (.br 11 (.br 6 (.br 10 (.op 12 (.op 13 (.op 14 .nil))) (.br 12 (.op 10 (.op 13 (.op 14 .nil))) .stop)) (.br 12 (.op 6 (.op 10 (.op 13 (.op 14 .nil)))) .stop)) (.br 12 (.br 6 (.br 10 (.op 11 (.op 13 (.op 14 .nil))) (.br 11 (.op 10 (.op 13 (.op 14 .nil))) .stop)) (.br 11 (.op 6 (.op 10 (.op 13 (.op 14 .nil)))) .stop)) .stop)))))))))))),(7,.op 0 (.op 3 (.op 4 (.op 1 (.op 2 (.op 5 (.op 6 (.op 7 .nil)))))))),(8,.br 0 (.br 1 (.op 2 (.op 3 (.op 4 .nil))) (.br 2 (.br 1 (.op 3 (.op 4 .nil)) .stop) .stop)) (.br 1 (.br 0 (.op 2 (.op 3 (.op 4 .nil))) .stop) .stop))]
theorem exact_sign (na nb:Bool) (a b:Nat) (hb:0 < b) (hd:b ∣ a):(if (na != nb)=true then -((a / b:Nat):Int) else ((a / b:Nat):Int))=(if na=true then -(a:Int) else a) / (if nb=true then -(b:Int) else b):=by
 obtain ⟨c,rfl⟩:=hd
 rw [Nat.mul_div_cancel_left _ hb]
 have h:(b:Int) ≠ 0:=by omega
 have h' : -(b:Int) ≠ 0:=by omega
 rw [Int.natCast_mul]
 cases na<;>cases nb<;>simp
 ·rw [Int.mul_ediv_cancel_left _ h]
 ·rw [Int.mul_ediv_cancel_left _ h]
 ·rw [<-Int.mul_neg,Int.mul_ediv_cancel_left _ h]
 ·rw [<-Int.mul_neg,Int.mul_ediv_cancel_left _ h,Int.neg_neg]
theorem div_con (na nb:Bool) (ma mb:ByteArray) (ha:ma.size<=4294967296) (hb:mb.size<=4294967296) (h0:0 < bv mb) (hd:bv mb ∣ bv ma):Con Tryz.prog 213 [.v (zR na ma),.v (zR nb mb)] (.v (.tuple #[zV (zval na ma / zval nb mb),zV 0,.int .i64 0])):=by
 have qa:=lb_le_bytes (bv_lt ma)
 have qb:=lb_le_bytes (bv_lt mb)
 have hla:=load_con ma (by omega)
 have hlb:=load_con mb (by omega)
 have hq:(if (na != nb)=true then -((bv ma / bv mb:Nat):Int) else ((bv ma / bv mb:Nat):Int))=zval na ma / zval nb mb:=exact_sign na nb _ _ h0 hd
 have hm:bv ma % bv mb=0:=Nat.mod_eq_zero_of_dvd hd
 have hp1:=pack_con (na != nb) (lb (bv ma / bv mb)) (lb_ok _) (by have:=lb_mono (Nat.div_le_self (bv ma) (bv mb)); omega)
 rw [val_lb,hq] at hp1
 have hp2:=pack_con na [] .nil (by simp)
 have e0:(if na=true then - val [] else val [])=0:=by cases na<;>rfl
 rw [e0] at hp2
 have hlt:bv ma < bv mb->Con Tryz.prog 281 [.ro cU (lb (bv ma)),.ro cU (lb (bv mb))] (.tup [.ro cU [],.arg 0 (lb (bv ma)).length])/\lb (bv ma / bv mb)=[]/\lb (bv ma)=[]:=fun c=>by
  have hA:bv ma=0:=by
   rw [Nat.mod_eq_of_lt c] at hm; exact hm
  refine ⟨divide_lt _ _ c (by omega) (by omega),?_,by rw [hA,lb_zero]⟩
  rw [hA,Nat.zero_div,lb_zero]
 have hge:¬ bv ma < bv mb->Con Tryz.prog 281 [.ro cU (lb (bv ma)),.ro cU (lb (bv mb))] (.tup [.ro cU (lb (bv ma / bv mb)),.ro cU []]):=fun c=>by
  have h:=divide_ge (bv ma) (bv mb) (by omega) h0 (by omega)
  rw [hm,lb_zero] at h
  exact h
 have hne:(lb (bv mb)).length ≠ 0:=by
  have:=lb_len_ge (n:=bv mb) (k:=0) (by omega)
  omega
 obtain ⟨C,hC⟩:∃ C,C=(bv ma < bv mb):=⟨_,rfl⟩
 rw [<-hC] at hlt hge
 obtain ⟨xs,hxs⟩:∃ x,x=lb (bv ma):=⟨_,rfl⟩
 obtain ⟨ys,hys⟩:∃ x,x=lb (bv mb):=⟨_,rfl⟩
 obtain ⟨zs,hzs⟩:∃ x,x=lb (bv ma / bv mb):=⟨_,rfl⟩
 rw [<-hxs] at hla
 rw [<-hys] at hlb hne
 rw [<-hxs,<-hys,<-hzs] at hlt hge
 rw [<-hzs] at hp1
 obtain ⟨sg,m,hz⟩:=zV_ex (zval na ma / zval nb mb)
 rw [hz] at hp1
 obtain ⟨s2,m2,hz2,hm2⟩:∃ s m,zV 0=.agg #[.bool s,.string m]/\std.bn (std.sq m ⟨⟨[]⟩⟩)=false:=by
  refine ⟨_,_,rfl,?_⟩
  have:mg (0:Int).natAbs=⟨⟨[]⟩⟩:=mg_empty.2 rfl
  rw [this,s_bn,sq_iff]; simp
 rw [hz2] at hp2
 rw [hz,hz2]
 obtain ⟨b,hbb⟩:∃ b,b=(na != nb):=⟨_,rfl⟩
 rw [<-hbb] at hp1
 obtain ⟨lx,hlx⟩:∃ n:Int,n=xs.length:=⟨_,rfl⟩
 rw [<-hlx] at hlt
 clear hxs hys hzs hz hz2 hq hm e0 hd h0 qa qb hC
 have tx:=tk_len xs
 have ty:=tk_len ys
 have tz:=tk_len zs
 have hxl:std.len Int xs=lx:=hlx.symm
 have hbn:std.bn (std.bq na nb)=b:=hbb.symm
 have hin:std.ic .eql (std.len Int ys) 0=false:=by
  rw [s_eql,s_len]; exact decide_eq_false (by omega)
 unfold zR
 refine Con.of ttOk mixed Tryz.func213 { ord:=ordT185 } .nil 0 (by kernel_rfl) (fun P' E hP hE=>?_)
 cbv
 refine CallTo.con hP hE hlb (by subst hE; exact ⟨rfl,trivial⟩) ?_
 cbv
 refine fork.mk ?_ ?_
 ·intro c1
  exfalso
  subst hE
  have h2:true=false:=(show std.ic .eql (std.len Int ys) 0=true from c1).symm.trans hin
  cases h2
 ·intro c1
  cbv
  refine CallTo.con hP hE hla (by subst hE; exact ⟨rfl,trivial⟩) ?_
  by_cases hc:C
  ·have hd:=hlt hc
   cbv
   refine CallTo.con hP hE hd.1 (by subst hE; exact ⟨Sm.of tx,Sm.of ty,trivial⟩) ?_
   cbv
   have e1:std.tk Int [] (std.len Int [])=zs:=by rw [hd.2.1]; rfl
   have e2:std.tk Int xs lx=[]:=by rw [hd.2.2]; exact List.take_nil
   refine DrawTo.by (κ:=Unit) (fun _=>[(10,.p 9 0),(11,.p 10 0)]) (fun _=>[]) (fun _=>[.cells [.v (.bool sg),.v (.string m)] 122,.cells [.v (.bool s2),.v (.string m2)] 122]) (fun _=>True) ?_ ?_
   ·cbv
    repeat' first
     | exact True.intro
     | (refine Both.mk ?_ ?_<;>cbv)
     | (refine CallTo.con hP hE hp1 (by subst hE; exact ⟨congrArg Value.bool hbn,Sm.of e1,trivial⟩) ?_; cbv)
     | (refine CallTo.con hP hE hp2 (by subst hE; exact ⟨rfl,Sm.of e2,trivial⟩) ?_; cbv)
     | (refine ⟨(),[],trivial,?_⟩; cbv; done)
     | (refine ⟨(),[],trivial,?_⟩; cbv; subst hE; and_intros<;>(simp; done))
     | (refine ⟨(),[0,1,2,3,4,5,6,7,8,10,9],trivial,?_⟩; cbv; done)
     | (refine ⟨(),[0,1,2,3,4,5,6,7,8,10,9],trivial,?_⟩; cbv; subst hE; and_intros<;>(simp; done))
   ·intro k hk
    clear hk
    cbv
    refine fork.mk ?_ ?_
    ·intro c2
     exfalso
     subst hE
     have h2:true=false:=(show std.bn (std.sq m2 ⟨⟨[]⟩⟩)=true from c2).symm.trans hm2
     cases h2
    ·intro c2
     cbv
     refine DrawTo.by (κ:=Unit) (fun _=>[(6,.c (.int .i64 0))]) (fun _=>[(4,.cells [.v (.bool sg),.v (.string m)] 122),(5,.cells [.v (.bool s2),.v (.string m2)] 122)]) (fun _=>[]) (fun _=>True) ?_ ?_
     ·cbv
      repeat' first
       | exact True.intro
       | (refine Both.mk ?_ ?_<;>cbv)
       | (refine ⟨(),[],trivial,?_⟩; cbv; done)
       | (refine ⟨(),[],trivial,?_⟩; cbv; subst hE; and_intros<;>(simp; done))
     ·intro k hk
      cbv
  ·have hd:=hge hc
   cbv
   refine CallTo.con hP hE hd (by subst hE; exact ⟨Sm.of tx,Sm.of ty,trivial⟩) ?_
   cbv
   have e2:std.tk Int [] (std.len Int [])=[]:=rfl
   refine DrawTo.by (κ:=Unit) (fun _=>[(10,.p 10 0),(11,.p 11 0)]) (fun _=>[]) (fun _=>[.cells [.v (.bool sg),.v (.string m)] 122,.cells [.v (.bool s2),.v (.string m2)] 122]) (fun _=>True) ?_ ?_
   ·cbv
    repeat' first
     | exact True.intro
     | (refine Both.mk ?_ ?_<;>cbv)
     | (refine CallTo.con hP hE hp1 (by subst hE; exact ⟨congrArg Value.bool hbn,Sm.of tz,trivial⟩) ?_; cbv)
     | (refine CallTo.con hP hE hp2 (by subst hE; exact ⟨rfl,Sm.of e2,trivial⟩) ?_; cbv)
     | (refine ⟨(),[],trivial,?_⟩; cbv; done)
     | (refine ⟨(),[],trivial,?_⟩; cbv; subst hE; and_intros<;>(simp; done))
     | (refine ⟨(),[0,1,2,3,4,5,6,7,8,9,11,10],trivial,?_⟩; cbv; done)
     | (refine ⟨(),[0,1,2,3,4,5,6,7,8,9,11,10],trivial,?_⟩; cbv; subst hE; and_intros<;>(simp; done))
   ·intro k hk
    clear hk
    cbv
    refine fork.mk ?_ ?_
    ·intro c2
     exfalso
     subst hE
     have h2:true=false:=(show std.bn (std.sq m2 ⟨⟨[]⟩⟩)=true from c2).symm.trans hm2
     cases h2
    ·intro c2
     cbv
     refine DrawTo.by (κ:=Unit) (fun _=>[(6,.c (.int .i64 0))]) (fun _=>[(4,.cells [.v (.bool sg),.v (.string m)] 122),(5,.cells [.v (.bool s2),.v (.string m2)] 122)]) (fun _=>[]) (fun _=>True) ?_ ?_
     ·cbv
      repeat' first
       | exact True.intro
       | (refine Both.mk ?_ ?_<;>cbv)
       | (refine ⟨(),[],trivial,?_⟩; cbv; done)
       | (refine ⟨(),[],trivial,?_⟩; cbv; subst hE; and_intros<;>(simp; done))
     ·intro k hk
      cbv
theorem mg_size_le {n k:Nat} (h:n < 256 ^ k):(mg n).size<=k:=by
 rw [dg_size,dg_mg]
 refine Decidable.byContradiction fun c=>?_
 have h0:n ≠ 0:=fun e=>by rw [e,mgl_zero] at c; simp at c
 have h1:=mgl_ge h0
 have h2:(256:Nat) ^ k<=256 ^ ((mgl n).length - 1):=pow256_mono (by omega)
 omega
theorem integer_con (neg:Bool) (mag:ByteArray):Con Tryz.prog 208 [.v (.bool neg),.v (.string mag)] (.v (zR neg mag)):=by
 unfold zR
 refine Con.of ttOk mixed Tryz.func208 {} .nil 0 (by kernel_rfl) (fun P' E hP hE=>?_)
 cbv
theorem is_con (neg:Bool) (mag:ByteArray) (n:Int) (hm:mag.size<=4294967296) (h0 : -9223372036854775808<=n) (h1:n < 9223372036854775808):Con Tryz.prog 209 [.v (zR neg mag),.v (.int .i64 n)] (.v (.bool (decide (zval neg mag=n)))):=by
 have ho:=of_con n h0 h1
 have hs:(mg n.natAbs).size<=8:=mg_size_le (by
  have:(256:Nat) ^ 8=18446744073709551616:=by decide
  omega)
 have hc:=compare_z neg (decide (n < 0)) mag (mg n.natAbs) hm (by omega)
 rw [zval_mg] at hc
 obtain ⟨c,hcc⟩:∃ c,c=cmpI (zval neg mag) n:=⟨_,rfl⟩
 rw [<-hcc] at hc
 have hr:decide (zval neg mag=n)=std.ic .eql c 0:=by
  rw [s_eql]
  refine decide_eq_decide.2 ?_
  rw [hcc,cmpI]
  constructor
  ·intro h; rw [if_neg (by omega),if_neg (by omega)]
  ·intro h; split at h
   ·omega
   ·split at h<;>omega
 rw [hr]
 obtain ⟨r,hrr⟩:∃ r,r=std.ic .eql c 0:=⟨_,rfl⟩
 rw [<-hrr]
 unfold zV at ho
 obtain ⟨sg,hsg⟩:∃ b,b=decide (n < 0):=⟨_,rfl⟩
 obtain ⟨m,hmm⟩:∃ b,b=mg n.natAbs:=⟨_,rfl⟩
 rw [<-hsg,<-hmm] at ho hc
 unfold zR at ho hc ⊢
 refine Con.of ttOk mixed Tryz.func209 { ord:=[(1,List.range 6)] } .nil 0 (by kernel_rfl) (fun P' E hP hE=>?_)
 clear hr hcc hsg hmm
 have hrr:std.ic .eql c 0=r:=hrr.symm
 cbv
 refine CallTo.con hP hE ho (by subst hE; exact ⟨rfl,trivial⟩) ?_
 cbv
 refine CallTo.con hP hE hc (by subst hE; exact ⟨rfl,rfl,trivial⟩) ?_
 cbv
 subst hE
 exact congrArg Value.bool hrr
theorem digits_con (s:ByteArray) (h:s.size<=7):Con Tryz.prog 283 [.v (.string s)] (.v (.int .i64 (bv s:Nat))):=by
 obtain ⟨r,hr⟩:∃ r:Int,r=(bv s:Nat):=⟨_,rfl⟩
 rw [<-hr]
 refine Con.of ttOk mixed Tryz.func283 {} .nil 0 (by kernel_rfl) (fun P' E hP hE=>?_)
 obtain ⟨i0,hi0⟩:∃ i:Int,i=0:=⟨_,rfl⟩
 have hz:WInv s i0 i0:=by subst hi0; exact ⟨by omega,by omega,rfl⟩
 have hfin:∀ i n:Int,WInv s i n->¬ i < s.size->n=r:=by
  intro i n q hi
  have q1:=q.i1
  have q0:=q.i0
  rw [q.v,List.take_of_length_le (by rw [<-dg_size]; omega),hr]; rfl
 cbv
 refine LoopTo.by (ι:=Int × Int) (fun x=>[(7,.v (.int .i64 x.1)),(3,.v (.int .i64 x.2))]) (fun x=>[]) (fun x=>WInv s x.1 x.2) (fun x=>((s.size:Int) - x.1).toNat) (i0,i0) [] hz ?_ ?_
 ·cbv
  subst hE
  and_intros
  all_goals first
   | exact congrArg (Value.int _) hi0.symm
   | (simp; done)
 ·rintro ⟨i,n⟩ hi
  have hi:WInv s i n:=hi
  have hi00:=hi.i0
  cbv
  refine fork.mk ?_ ?_
  ·intro h2
   have hlt:i < s.size:=by
    subst hE
    have h:std.ic .lss i (std.sz s)=true:=h2
    simpa using h
   have q:=hi.step h hlt
   refine exVar (n*256+(((dg s).getD i.toNat 0).toNat:Int)) ?_
   intro n' hn'
   refine exVar (i+1) ?_
   intro i' hi'
   have q1:std.ib .or .i64 (std.ib .shl .i64 n 8) (std.cv .i64 (std.sa s i))=n':=by rw [hn']; exact q.1
   have q2:WInv s i' n':=by rw [hn',hi']; exact q.2
   have hii:std.ib .add .i64 i 1=i':=by rw [s_add,w64 (by omega) (by omega),hi']
   have hin:std.inb i (std.sz s):=by rw [s_inb,s_sz]; exact ⟨hi00,hlt⟩
   have hmu:((s.size:Int) - i').toNat < ((s.size:Int) - i).toNat:=by omega
   clear hn' q
   cbv
   refine ⟨by subst hE; simp,?_⟩
   cbv
   refine ⟨by subst hE; exact hin,?_⟩
   cbv
   refine ⟨(i',n'),[],q2,hmu,?_⟩
   cbv
   subst hE
   and_intros
   all_goals first
    | exact vi q1
    | exact vi hii
    | (simp; done)
  ·intro h2
   have hlt:¬ i < s.size:=by
    subst hE
    have h:std.ic .lss i (std.sz s)=false:=h2
    simpa using h
   have q:=hfin i n hi hlt
   cbv
   exact congrArg (Value.int .i64) q
/-- A number as the program takes it: a sign, and the digits of numerator and denominator. -/
def rR (neg:Bool) (num den:ByteArray):Value:=.agg #[.bool neg,.string num,.string den]
/-- A fraction as the program keeps it. -/
def fR (neg:Bool) (num:ByteArray) (neg':Bool) (den:ByteArray):Value:=.agg #[.bool neg,.string num,.bool neg',.string den]
/-- The denominator, where none stands for 1. -/
def dden (den:ByteArray):ByteArray:=if bv den=0 then mg 1 else den
def ordT98:List (Nat × Ot):=[(1,.op 0 (.op 1 (.op 2 (.op 3 (.op 5 (.op 6 (.br 4 (.br 7 (.op 8 (.op 9 (.op 10 .nil))) (.br 9 (.op 7 (.op 8 (.op 10 .nil))) .stop)) (.br 9 (.op 4 (.op 7 (.op 8 (.op 10 .nil)))) .stop))))))))]
theorem of98_con (neg:Bool) (num den:ByteArray) (hd:den.size<=4294967296):Con Tryz.prog 126 [.v (rR neg num den)] (.v (fR neg num false (dden den))):=by
 have h1:=integer_con neg num
 have h2:=integer_con false den
 have h3:=is_con false den 0 hd (by decide) (by decide)
 have h4:=of_con 1 (by decide) (by decide)
 have e3:decide (zval false den=0)=decide (bv den=0):=by
  refine decide_eq_decide.2 ?_
  unfold zval; simp
 rw [e3] at h3
 obtain ⟨r,hr⟩:∃ r,r=decide (bv den=0):=⟨_,rfl⟩
 rw [<-hr] at h3
 obtain ⟨m1,hm1⟩:∃ m,m=mg 1:=⟨_,rfl⟩
 have e4:zV 1=.agg #[.bool false,.string m1]:=by rw [hm1]; rfl
 rw [e4] at h4
 have g1:r=true->m1=dden den:=fun h=>by
  rw [hr] at h
  rw [dden,if_pos (of_decide_eq_true h),hm1]
 have g2:r=false->den=dden den:=fun h=>by
  rw [hr] at h
  rw [dden,if_neg (of_decide_eq_false h)]
 obtain ⟨dd,hdd⟩:∃ m,m=dden den:=⟨_,rfl⟩
 rw [<-hdd] at g1 g2 ⊢
 unfold zR at h1 h2 h3
 unfold rR fR
 refine Con.of ttOk mixed Tryz.func126 { ord:=ordT98 } .nil 0 (by kernel_rfl) (fun P' E hP hE=>?_)
 clear hr hm1 e4 e3 hdd
 cbv
 refine DrawTo.by (κ:=Unit) (fun _=>[(3,.p 3 0)]) (fun _=>[]) (fun _=>[.cells [.v (.bool neg),.v (.string num),.v (.bool false),.v (.string den)] 127]) (fun _=>True) ?_ ?_
 ·cbv
  repeat' first
   | exact True.intro
   | (refine Both.mk ?_ ?_<;>cbv)
   | (refine CallTo.con hP hE h1 (by subst hE; exact ⟨rfl,rfl,trivial⟩) ?_; cbv)
   | (refine CallTo.con hP hE h2 (by subst hE; exact ⟨rfl,rfl,trivial⟩) ?_; cbv)
   | (refine ⟨(),[],trivial,?_⟩; cbv; done)
   | (refine ⟨(),[],trivial,?_⟩; cbv; subst hE; and_intros<;>(simp; done))
 ·intro k hk
  clear hk
  cbv
  refine CallTo.con hP hE h3 (by subst hE; exact ⟨rfl,rfl,trivial⟩) ?_
  cbv
  refine fork.mk ?_ ?_
  ·intro c1
   have e:m1=dd:=g1 c1
   cbv
   refine CallTo.con hP hE h4 (by subst hE; exact ⟨rfl,trivial⟩) ?_
   cbv
   rw [e]
  ·intro c1
   have e:den=dd:=g2 c1
   cbv
   exact congrArg (fun d=>Value.agg #[.bool neg,.string num,.bool false,.string d]) e
/-- The canonical number with the value n / d. -/
def rI (n:Int) (d:Nat):Value:=
 if n=0 then rR false ⟨⟨[]⟩⟩ ⟨⟨[]⟩⟩
 else rR (decide (n / (Nat.gcd n.natAbs d:Nat) < 0)) (mg (n / (Nat.gcd n.natAbs d:Nat)).natAbs) (if d / Nat.gcd n.natAbs d=1 then ⟨⟨[]⟩⟩ else mg (d / Nat.gcd n.natAbs d))
theorem zval_abs (neg:Bool) (mag:ByteArray):(zval neg mag).natAbs=bv mag:=by
 unfold zval; cases neg
 ·simp
 ·simp
theorem number_con (neg:Bool) (num den:ByteArray) (h0:0 < bv den) (hn:num.size<=4294967296) (hd:den.size<=4294967296):Con Tryz.prog 128 [.v (fR neg num false den)] (.v (rI (zval neg num) (bv den))):=by
 have c1:=is_con neg num 0 hn (by decide) (by decide)
 have c2:=gcd_con neg false num den hn hd
 obtain ⟨g,hg⟩:∃ g,g=Nat.gcd (bv num) (bv den):=⟨_,rfl⟩
 have g0:0 < g:=by rw [hg]; exact Nat.gcd_pos_of_pos_right _ h0
 have gn:g ∣ bv num:=by rw [hg]; exact Nat.gcd_dvd_left _ _
 have gd:g ∣ bv den:=by rw [hg]; exact Nat.gcd_dvd_right _ _
 have gs:(mg g).size<=den.size:=mg_size_le (Nat.lt_of_le_of_lt (Nat.le_of_dvd h0 gd) (bv_lt den))
 have c3:=div_con neg false num (mg g) hn (by omega) (by rw [bv_mg]; exact g0) (by rw [bv_mg]; exact gn)
 have c4:=div_con false false den (mg g) hd (by omega) (by rw [bv_mg]; exact g0) (by rw [bv_mg]; exact gd)
 have eg:zval false (mg g)=g:=by unfold zval; rw [bv_mg]; rfl
 have ed:zval false den=bv den:=rfl
 rw [eg] at c3
 rw [eg,ed] at c4
 have e5:(bv den:Int) / (g:Int)=((bv den / g:Nat):Int):=(Int.natCast_ediv _ _).symm
 rw [e5] at c4
 have dsz:(mg (bv den / g)).size<=den.size:=mg_size_le (Nat.lt_of_le_of_lt (Nat.div_le_self _ _) (bv_lt den))
 have c5:=is_con false (mg (bv den / g)) 1 (by omega) (by decide) (by decide)
 have e6:decide (zval false (mg (bv den / g))=1)=decide (bv den / g=1):=by
  refine decide_eq_decide.2 ?_
  unfold zval; rw [bv_mg]; simp; omega
 rw [e6] at c5
 have ez:∀ n:Nat,zV (n:Int)=.agg #[.bool false,.string (mg n)]:=fun n=>by
  have h:decide ((n:Int) < 0)=false:=decide_eq_false (by omega)
  unfold zV zR
  rw [h]; rfl
 rw [<-hg,ez g] at c2
 rw [ez (bv den / g)] at c4
 have er:rI (zval neg num) (bv den)=if zval neg num=0 then .agg #[.bool false,.string ⟨⟨[]⟩⟩,.string ⟨⟨[]⟩⟩] else .agg #[.bool (decide (zval neg num / (g:Int) < 0)),.string (mg (zval neg num / (g:Int)).natAbs),.string (if bv den / g=1 then ⟨⟨[]⟩⟩ else mg (bv den / g))]:=by
  unfold rI rR
  rw [zval_abs,<-hg]
 have t0:zval neg num=0->rI (zval neg num) (bv den)=.agg #[.bool false,.string ⟨⟨[]⟩⟩,.string ⟨⟨[]⟩⟩]:=fun h=>by rw [er,if_pos h]
 obtain ⟨sg,m,hz⟩:∃ s m,s=decide (zval neg num / (g:Int) < 0)/\m=mg (zval neg num / (g:Int)).natAbs:=⟨_,_,rfl,rfl⟩
 have hz3:zV (zval neg num / (g:Int))=.agg #[.bool sg,.string m]:=by rw [hz.1,hz.2]; rfl
 rw [<-hz.1,<-hz.2] at er
 rw [hz3] at c3
 obtain ⟨s0,m0,hz0⟩:=zV_ex 0
 rw [hz0] at c3 c4
 have t1:¬ zval neg num=0->bv den / g=1->rI (zval neg num) (bv den)=.agg #[.bool sg,.string m,.string ⟨⟨[]⟩⟩]:=fun h h'=>by rw [er,if_neg h,if_pos h']
 have t2:¬ zval neg num=0->¬ bv den / g=1->rI (zval neg num) (bv den)=.agg #[.bool sg,.string m,.string (mg (bv den / g))]:=fun h h'=>by rw [er,if_neg h,if_neg h']
 obtain ⟨rs,rn,rd,hres⟩:∃ a b c,rI (zval neg num) (bv den)=.agg #[.bool a,.string b,.string c]:=by
  unfold rI
  split
  ·exact ⟨_,_,_,rfl⟩
  ·exact ⟨_,_,_,rfl⟩
 rw [hres] at t0 t1 t2 ⊢
 obtain ⟨r1,hr1⟩:∃ r,r=decide (zval neg num=0):=⟨_,rfl⟩
 obtain ⟨r2,hr2⟩:∃ r,r=decide (bv den / g=1):=⟨_,rfl⟩
 rw [<-hr1] at c1
 rw [<-hr2] at c5
 obtain ⟨mgg,hmgg⟩:∃ x,x=mg g:=⟨_,rfl⟩
 obtain ⟨mdd,hmdd⟩:∃ x,x=mg (bv den / g):=⟨_,rfl⟩
 rw [<-hmgg] at c2 c3 c4
 rw [<-hmdd] at c4 c5 t2
 have u0:r1=true->Value.agg #[.bool rs,.string rn,.string rd]=.agg #[.bool false,.string ⟨⟨[]⟩⟩,.string ⟨⟨[]⟩⟩]:=fun h=>t0 (of_decide_eq_true (hr1.symm.trans h))
 have u1:r1=false->r2=true->Value.agg #[.bool rs,.string rn,.string rd]=.agg #[.bool sg,.string m,.string ⟨⟨[]⟩⟩]:=fun h h'=>t1 (of_decide_eq_false (hr1.symm.trans h)) (of_decide_eq_true (hr2.symm.trans h'))
 have u2:r1=false->r2=false->Value.agg #[.bool rs,.string rn,.string rd]=.agg #[.bool sg,.string m,.string mdd]:=fun h h'=>t2 (of_decide_eq_false (hr1.symm.trans h)) (of_decide_eq_false (hr2.symm.trans h'))
 unfold zR at c1 c2 c3 c4 c5
 unfold fR
 refine Con.of ttOk mixed Tryz.func128 {} .nil 0 (by kernel_rfl) (fun P' E hP hE=>?_)
 clear hr1 hr2 hmgg hmdd hz hz3 hz0 er ez e6 e5 t0 t1 t2 hres gn gd g0 hg eg ed gs dsz
 cbv
 refine CallTo.con hP hE c1 (by subst hE; exact ⟨rfl,rfl,trivial⟩) ?_
 cbv
 refine fork.mk ?_ ?_
 ·intro k1
  have e:=u0 k1
  cbv
  exact e.symm
 ·intro k1
  cbv
  refine CallTo.con hP hE c2 (by subst hE; exact ⟨rfl,rfl,trivial⟩) ?_
  cbv
  refine CallTo.con hP hE c3 (by subst hE; exact ⟨rfl,rfl,trivial⟩) ?_
  cbv
  refine CallTo.con hP hE c4 (by subst hE; exact ⟨rfl,rfl,trivial⟩) ?_
  cbv
  refine CallTo.con hP hE c5 (by subst hE; exact ⟨rfl,rfl,trivial⟩) ?_
  cbv
  refine fork.mk ?_ ?_
  ·intro k2
   have e2:r2=false:=by
    subst hE
    have h:(!r2)=true:=k2
    simpa using h
   have e:=u2 k1 e2
   cbv
   exact e.symm
  ·intro k2
   have e2:r2=true:=by
    subst hE
    have h:(!r2)=false:=k2
    simpa using h
   have e:=u1 k1 e2
   cbv
   exact e.symm
theorem tup3 {a b c d:Int} {f:Bool} (h:a=c) (h':b=d):Value.tuple #[.int .i64 a,.int .i64 b,.bool f]=Value.tuple #[.int .i64 c,.int .i64 d,.bool f]:=by rw [h,h']
theorem machine_no (neg:Bool) (num den:ByteArray) (h:3 < num.size\/3 < den.size):Con Tryz.prog 214 [.v (rR neg num den)] (.v (.tuple #[.int .i64 0,.int .i64 0,.bool false])):=by
 unfold rR
 refine Con.of ttOk mixed Tryz.func214 { ord:=[(3,[0,1,3,4,2,5,6,7])] } .nil 0 (by kernel_rfl) (fun P' E hP hE=>?_)
 cbv
 refine fork.mk ?_ ?_
 ·intro h1
  cbv
 ·intro h1
  have h1':¬ 3 < num.size:=by
   subst hE
   have h:std.ic .gtr (std.sz num) 3=false:=h1
   simp at h
   omega
  cbv
  refine fork.mk ?_ ?_
  ·intro h2
   cbv
  ·intro h2
   exfalso
   subst hE
   have h:std.ic .gtr (std.sz den) 3=false:=h2
   simp at h
   omega
theorem machine_yes (neg:Bool) (num den:ByteArray) (hn:num.size<=3) (hd:den.size<=3):Con Tryz.prog 214 [.v (rR neg num den)] (.v (.tuple #[.int .i64 (zval neg num),.int .i64 (max (bv den:Int) 1),.bool true])):=by
 have c1:=digits_con num (by omega)
 have c2:=digits_con den (by omega)
 have b1:=zval_small neg num (by omega)
 obtain ⟨n,hn'⟩:∃ n:Int,n=(bv num:Nat):=⟨_,rfl⟩
 obtain ⟨d,hd'⟩:∃ n:Int,n=(bv den:Nat):=⟨_,rfl⟩
 rw [<-hn'] at c1
 rw [<-hd'] at c2
 obtain ⟨r,hr⟩:∃ r,r=zval neg num:=⟨_,rfl⟩
 have e0:neg=true->std.un .neg .i64 n=r:=fun h=>by
  rw [hr] at *
  unfold zval at b1 ⊢
  rw [if_pos h] at b1 ⊢
  rw [s_neg,w64 (by omega) (by omega),hn']; omega
 have e1:neg=false->n=r:=fun h=>by
  rw [hr]; unfold zval
  rw [h,hn']; rfl
 obtain ⟨m,hm⟩:∃ m:Int,m=max (bv den:Int) 1:=⟨_,rfl⟩
 have e2:std.mm true d 1=m:=by
  rw [s_mx,hm,<-hd']
  by_cases c:(1:Int) > d
  ·rw [if_pos c]; omega
  ·rw [if_neg c]; omega
 rw [<-hr,<-hm]
 unfold rR
 refine Con.of ttOk mixed Tryz.func214 { ord:=[(3,[0,1,3,4,2,5,6,7])] } .nil 0 (by kernel_rfl) (fun P' E hP hE=>?_)
 clear hr hm hn' hd' b1
 cbv
 refine fork.mk ?_ ?_
 ·intro h1
  exfalso
  subst hE
  have h:std.ic .gtr (std.sz num) 3=true:=h1
  simp at h
  omega
 ·intro h1
  cbv
  refine fork.mk ?_ ?_
  ·intro h2
   exfalso
   subst hE
   have h:std.ic .gtr (std.sz den) 3=true:=h2
   simp at h
   omega
  ·intro h2
   cbv
   refine CallTo.con hP hE c1 (by subst hE; exact ⟨rfl,trivial⟩) ?_
   cbv
   refine CallTo.con hP hE c2 (by subst hE; exact ⟨rfl,trivial⟩) ?_
   cbv
   refine fork.mk ?_ ?_
   ·intro h3
    have e:=e0 h3
    cbv
    subst hE
    exact tup3 e e2
   ·intro h3
    have e:=e1 h3
    cbv
    subst hE
    exact tup3 e e2
structure XInv (N:Nat) (n i:Int) (o:List Int):Prop where
 n0:0<=n
 i0:0<=i
 i1:i<=8
 b:n < ((256 ^ i.toNat:Nat):Int)
 len:o.length=8
 v:mgl N=mgl n.toNat++by8 (o.drop i.toNat)
theorem XInv.step {N:Nat} {n i:Int} {o:List Int} (h:XInv N n i o) (hn:0 < n):0<=i - 1/\XInv N (n / 256) (i - 1) (o.set (i - 1).toNat (n % 256)):=by
 have h0:=h.i0
 have h1:=h.i1
 have hi:0 < i:=by
  refine Decidable.byContradiction fun c=>?_
  have e:i.toNat=0:=by omega
  have:=h.b
  rw [e] at this
  simp at this
  omega
 have e:i.toNat=(i - 1).toNat+1:=by omega
 have hl:=h.len
 have hb:=h.b
 rw [e,Nat.pow_succ] at hb
 generalize hj:(i - 1).toNat=j at *
 refine ⟨by omega,by omega,by omega,by omega,?_,by rw [List.length_set,hl],?_⟩
 ·rw [hj]
  generalize (256:Nat) ^ j=p at *
  omega
 ·have hv:=h.v
  rw [e] at hv
  rw [hj]
  have e2:(o.set j (n % 256)).drop j=(n % 256)::o.drop (j+1):=by
   rw [List.drop_eq_getElem_cons (by rw [List.length_set]; omega),List.getElem_set_self,List.drop_set,if_pos (by omega)]
  have e3:mgl n.toNat=mgl (n / 256).toNat++[UInt8.ofNat (n.toNat % 256)]:=by
   rw [mgl_pos (by omega)]
   congr 2
   omega
  rw [hv,e2,e3,List.append_assoc]
  congr 1
  simp only [by8,List.map,List.singleton_append]
  congr 2
  omega
theorem text_con (N:Nat) (h:N < 9223372036854775808):Con Tryz.prog 215 [.v (.int .i64 N)] (.v (.string (mg N))):=by
 obtain ⟨n0,hn0⟩:∃ x:Int,x=N:=⟨_,rfl⟩
 obtain ⟨o0,ho0⟩:∃ x:List Int,x=List.replicate 8 0:=⟨_,rfl⟩
 obtain ⟨i0,hi0⟩:∃ x:Int,x=8:=⟨_,rfl⟩
 obtain ⟨s,hs⟩:∃ s,s=mg N:=⟨_,rfl⟩
 rw [<-hn0,<-hs]
 have hz:XInv N n0 i0 o0:=by
  have e8:i0.toNat=8:=by omega
  have h8:(256:Nat) ^ 8=18446744073709551616:=by decide
  refine ⟨by omega,by omega,by omega,?_,by rw [ho0]; simp,?_⟩
  ·rw [e8,h8]; omega
  ·rw [e8,List.drop_eq_nil_of_le (by rw [ho0]; simp),hn0,Int.toNat_natCast]; simp [by8]
 refine Con.of ttOk mixed Tryz.func215 {} .nil 0 (by kernel_rfl) (fun P' E hP hE=>?_)
 cbv
 refine ⟨trivial,?_⟩
 cbv
 refine LoopTo.by (ι:=Int × Int × List Int) (fun x=>[(0,.v (.int .i64 x.1)),(4,.v (.int .i64 x.2.1))]) (fun x=>[(1,.row true 250 (cInt .u8) x.2.2)]) (fun x=>XInv N x.1 x.2.1 x.2.2) (fun x=>x.1.toNat) (n0,i0,o0) [] hz ?_ ?_
 ·cbv
  subst hE
  and_intros
  all_goals first
   | exact congrArg (Value.int _) hi0.symm
   | exact Sm.of ho0.symm
   | (simp; done)
 ·rintro ⟨n,i,o⟩ hi
  have hi:XInv N n i o:=hi
  cbv
  refine fork.mk ?_ ?_
  ·intro h1
   have h1':0 < n:=by
    subst hE
    have h:std.ic .gtr n 0=true:=h1
    simpa using h
   have q:=hi.step h1'
   have b1:=hi.i1
   have b2:=hi.n0
   have b3:=hi.len
   refine exVar (i - 1) ?_
   intro i' hi'
   refine exVar (n / 256) ?_
   intro n' hn'
   refine exVar (o.set i'.toNat (n % 256)) ?_
   intro o' ho'
   have hQ:XInv N n' i' o':=by rw [ho',hn',hi']; exact q.2
   have hsub:std.ib .sub .i64 i 1=i':=by rw [s_sub,w64 (by omega) (by omega),hi']
   have hin:std.inb (std.ib .sub .i64 i 1) (std.nof 8)/\std.len Int o=std.nof 8:=by
    rw [hsub,s_nof,s_inb,s_len,b3]
    exact ⟨⟨by rw [hi']; exact q.1,by show i' < 8; omega⟩,rfl⟩
   have hset:std.set Int o (std.ib .sub .i64 i 1) (std.cv .u8 n)=o':=by
    rw [hsub,s_set,s_cv,IntKind.wrap_u8,ho']
   have hshr:std.ib .shr .i64 n 8=n':=by
    rw [hn']; exact Int.fdiv_eq_ediv_of_nonneg _ (by decide)
   have hmu:n'.toNat < n.toNat:=by omega
   clear q ho'
   cbv
   refine ⟨by subst hE; exact hin,?_⟩
   cbv
   refine ⟨by subst hE; simp,?_⟩
   cbv
   refine ⟨(n',i',o'),[],hQ,hmu,?_⟩
   cbv
   subst hE
   and_intros
   all_goals first
    | exact Sm.of hset
    | exact vi hsub
    | exact vi hshr
    | (simp; done)
  ·intro h1
   have h1':¬ 0 < n:=by
    subst hE
    have h:std.ic .gtr n 0=false:=h1
    simpa using h
   have b0:=hi.i0
   have b1:=hi.i1
   have b2:=hi.n0
   have b3:=hi.len
   have b4:=hi.v
   have hr:std.rng i (std.nof 8) (std.nof 8)/\std.len Int o=std.nof 8:=by
    rw [s_nof,s_rng,s_len,b3]
    exact ⟨⟨b0,b1,Int.le_refl _⟩,rfl⟩
   cbv
   refine ⟨by subst hE; exact hr,?_⟩
   have hstr:std.b2s Int (fun x=>[.int .u8 x]) (std.wnd Int o i (std.sb (std.nof 8) i))=s:=by
    have e0:n.toNat=0:=by omega
    rw [e0,mgl_zero,List.nil_append] at b4
    have e1:(((8:Nat):Int) - i).toNat=8 - i.toNat:=by omega
    rw [s_wnd,s_sb,s_nof,e1,List.take_of_length_le (by rw [List.length_drop,b3]; exact Nat.le_refl _)]
    refine dg_ext ?_
    rw [hs,dg_mg,b4]
    show (((o.drop i.toNat).flatMap fun x=>[Value.int .u8 x]).map byteOf).toArray.toList=by8 (o.drop i.toNat)
    exact flat8 _
   cbv
   refine ⟨fun y=>⟨y,rfl⟩,?_⟩
   cbv
   subst hE
   exact congrArg Value.string hstr
/-- Euclid's pair of machine integers. -/
structure YInv (g:Nat) (a b:Int):Prop where
 a0 : -4611686018427387904<=a
 a1:a<=4611686018427387904
 b0 : -4611686018427387904<=b
 b1:b<=4611686018427387904
 eg:Nat.gcd a.natAbs b.natAbs=g
theorem YInv.step {g:Nat} {a b:Int} (h:YInv g a b) (hb:b ≠ 0):YInv g b (a.tmod b)/\(a.tmod b).natAbs < b.natAbs:=by
 have h1:(a.tmod b).natAbs=a.natAbs % b.natAbs:=Int.natAbs_tmod _ _
 have h2:a.natAbs % b.natAbs < b.natAbs:=Nat.mod_lt _ (by omega)
 have:=h.b0; have:=h.b1
 refine ⟨⟨h.b0,h.b1,by omega,by omega,?_⟩,by omega⟩
 rw [h1,Nat.gcd_comm,<-Nat.gcd_rec,Nat.gcd_comm]
 exact h.eg
theorem YInv.last {g:Nat} {a b:Int} (h:YInv g a b) (hb:b=0):(g:Int)=std.mm true a (std.un .neg .i64 a):=by
 have h1:=h.eg
 have:=h.a0; have:=h.a1
 rw [hb] at h1
 simp at h1
 rw [s_mx,s_neg,w64 (by omega) (by omega)]
 split<;>omega
theorem ratio_con (n:Int) (d:Nat) (hd:0 < d) (hd1:d<=4611686018427387904) (hn0 : -4611686018427387904<=n) (hn1:n<=4611686018427387904):Con Tryz.prog 131 [.v (.int .i64 n),.v (.int .i64 d)] (.v (rI n d)):=by
 obtain ⟨g,hg⟩:∃ g,g=Nat.gcd n.natAbs d:=⟨_,rfl⟩
 have g0:0 < g:=by rw [hg]; exact Nat.gcd_pos_of_pos_right _ hd
 have gn:g ∣ n.natAbs:=by rw [hg]; exact Nat.gcd_dvd_left _ _
 have gd:g ∣ d:=by rw [hg]; exact Nat.gcd_dvd_right _ _
 have q1:=text_con (n.natAbs / g) (by have:=Nat.div_le_self n.natAbs g; omega)
 have q2:=text_con (d / g) (by have:=Nat.div_le_self d g; omega)
 obtain ⟨D,hD⟩:∃ x:Int,x=d:=⟨_,rfl⟩
 have hz:YInv g n D:=⟨hn0,hn1,by omega,by omega,by rw [hD,hg]; rfl⟩
 obtain ⟨G,hG⟩:∃ x:Int,x=g:=⟨_,rfl⟩
 have hlast:∀ a b:Int,YInv g a b->b=0->std.mm true a (std.un .neg .i64 a)=G:=fun a b h hb=>by rw [hG]; exact (h.last hb).symm
 have hdl:(d / g=1) ↔ D=G:=by
  obtain ⟨c,hc⟩:=gd
  rw [hD,hG,hc,Nat.mul_div_cancel_left _ g0]
  constructor
  ·intro h; rw [h]; simp
  ·intro h
   have h2:g*c=g*1:=by omega
   exact Nat.eq_of_mul_eq_mul_left g0 h2
 have hnd:n / (g:Int) < 0 ↔ n < 0:=by
  constructor
  ·intro h
   refine Decidable.byContradiction fun c=>?_
   have:=Int.ediv_nonneg (a:=n) (b:=(g:Int)) (by omega) (by omega)
   omega
  ·intro h
   exact Int.ediv_neg_of_neg_of_pos h (by omega)
 have hna:(n / (g:Int)).natAbs=n.natAbs / g:=by
  have h1:(g:Int) ∣ n:=Int.ofNat_dvd_left.2 gn
  rw [Int.natAbs_ediv_of_dvd h1]; rfl
 have er:rI n d=if n=0 then .agg #[.bool false,.string ⟨⟨[]⟩⟩,.string ⟨⟨[]⟩⟩] else .agg #[.bool (decide (n < 0)),.string (mg (n.natAbs / g)),.string (if d / g=1 then ⟨⟨[]⟩⟩ else mg (d / g))]:=by
  unfold rI rR
  rw [<-hg,hna,decide_eq_decide.2 hnd]
 obtain ⟨rs,rn,rd,hres⟩:∃ a b c,rI n d=.agg #[.bool a,.string b,.string c]:=by
  unfold rI
  split
  ·exact ⟨_,_,_,rfl⟩
  ·exact ⟨_,_,_,rfl⟩
 rw [hres] at er ⊢
 obtain ⟨m1,hm1⟩:∃ x,x=mg (n.natAbs / g):=⟨_,rfl⟩
 obtain ⟨m2,hm2⟩:∃ x,x=mg (d / g):=⟨_,rfl⟩
 rw [<-hm1,<-hm2] at er
 rw [<-hm1] at q1
 rw [<-hm2] at q2
 have t0:n=0->Value.agg #[.bool rs,.string rn,.string rd]=.agg #[.bool false,.string ⟨⟨[]⟩⟩,.string ⟨⟨[]⟩⟩]:=fun h=>by rw [er,if_pos h]
 have t1:¬ n=0->D=G->Value.agg #[.bool rs,.string rn,.string rd]=.agg #[.bool (decide (n < 0)),.string m1,.string ⟨⟨[]⟩⟩]:=fun h h'=>by rw [er,if_neg h,if_pos (hdl.2 h')]
 have t2:¬ n=0->¬ D=G->Value.agg #[.bool rs,.string rn,.string rd]=.agg #[.bool (decide (n < 0)),.string m1,.string m2]:=fun h h'=>by rw [er,if_neg h,if_neg (fun c=>h' (hdl.1 c))]
 have hq1:std.ib .quo .i64 (std.mm true n (std.un .neg .i64 n)) G=((n.natAbs / g:Nat):Int):=by
  have e:std.mm true n (std.un .neg .i64 n)=(n.natAbs:Int):=by
   rw [s_mx,s_neg,w64 (by omega) (by omega)]
   split<;>omega
  have h:=Nat.div_le_self n.natAbs g
  rw [e,hG,s_quo,td,w64 (by omega) (by omega)]
 have hq2:std.ib .quo .i64 D G=((d / g:Nat):Int):=by
  have h:=Nat.div_le_self d g
  rw [hD,hG,s_quo,td]
  generalize d / g=w at h ⊢
  rw [w64 (by omega) (by omega)]
 obtain ⟨k1,hk1⟩:∃ x:Int,x=((n.natAbs / g:Nat):Int):=⟨_,rfl⟩
 obtain ⟨k2,hk2⟩:∃ x:Int,x=((d / g:Nat):Int):=⟨_,rfl⟩
 rw [<-hk1] at q1 hq1
 rw [<-hk2] at q2 hq2
 rw [<-hD]
 have hGz:G ≠ 0:=by omega
 refine Con.of ttOk mixed Tryz.func131 { ord:=[(3,List.range 6)] } .nil 0 (by kernel_rfl) (fun P' E hP hE=>?_)
 clear er hres hm1 hm2 hk1 hk2 hna hnd hdl hg gn gd hD hG
 cbv
 refine LoopTo.by (ι:=Int × Int) (fun x=>[(5,.v (.int .i64 x.1)),(6,.v (.int .i64 x.2))]) (fun x=>[]) (fun x=>YInv g x.1 x.2) (fun x=>x.2.natAbs) (n,D) [] hz ?_ ?_
 ·cbv
  all_goals (subst hE; and_intros<;>(simp; done))
 ·rintro ⟨a,b⟩ hi
  have hi:YInv g a b:=hi
  cbv
  refine fork.mk ?_ ?_
  ·intro h1
   have h1':b ≠ 0:=by
    subst hE
    have h:std.ic .neq b 0=true:=h1
    simpa using h
   have q:=hi.step h1'
   refine exVar (a.tmod b) ?_
   intro r hr
   have hQ:YInv g b r:=by rw [hr]; exact q.1
   have hmu:r.natAbs < b.natAbs:=by rw [hr]; exact q.2
   have hrem:std.ib .rem .i64 a b=r:=by rw [s_rem,hr]
   clear q hr
   cbv
   refine ⟨by subst hE; exact h1',?_⟩
   cbv
   refine ⟨(b,r),[],hQ,hmu,?_⟩
   cbv
   subst hE
   and_intros
   all_goals first
    | exact vi hrem
    | (simp; done)
  ·intro h1
   have h1':b=0:=by
    subst hE
    have h:std.ic .neq b 0=false:=h1
    simpa using h
   have hg:=hlast a b hi h1'
   cbv
   refine fork.mk ?_ ?_
   ·intro h2
    have e:=t0 (by
     subst hE
     have h:std.ic .eql n 0=true:=h2
     simpa using h)
    cbv
    exact e.symm
   ·intro h2
    have h2':¬ n=0:=by
     subst hE
     have h:std.ic .eql n 0=false:=h2
     simpa using h
    have f0:std.nz .quo (std.mm true a (std.un .neg .i64 a)):=by rw [hg]; exact hGz
    have f1:std.ib .quo .i64 (std.mm true n (std.un .neg .i64 n)) (std.mm true a (std.un .neg .i64 a))=k1:=by rw [hg]; exact hq1
    have f2:std.ib .quo .i64 D (std.mm true a (std.un .neg .i64 a))=k2:=by rw [hg]; exact hq2
    cbv
    refine ⟨by subst hE; exact f0,?_⟩
    cbv
    refine CallTo.con hP hE q1 (by subst hE; exact ⟨congrArg (Value.int .i64) f1,trivial⟩) ?_
    cbv
    refine fork.mk ?_ ?_
    ·intro h3
     have h3':¬ D=G:=by
      subst hE
      have h:std.ic .neq D (std.mm true a (std.un .neg .i64 a))=true:=h3
      rw [hg] at h
      simpa using h
     have e:=t2 h2' h3'
     cbv
     refine ⟨by subst hE; exact f0,?_⟩
     cbv
     refine CallTo.con hP hE q2 (by subst hE; exact ⟨congrArg (Value.int .i64) f2,trivial⟩) ?_
     cbv
     subst hE
     exact e.symm
    ·intro h3
     have h3':D=G:=by
      subst hE
      have h:std.ic .neq D (std.mm true a (std.un .neg .i64 a))=false:=h3
      rw [hg] at h
      simpa using h
     have e:=t1 h2' h3'
     cbv
     subst hE
     exact e.symm
theorem mul_bound {a b:Int} (ha:a.natAbs<=16777216) (hb:b.natAbs<=16777216) : -281474976710656<=a*b/\a*b<=281474976710656:=by
 have h1:(a*b).natAbs=a.natAbs*b.natAbs:=Int.natAbs_mul a b
 have h2:a.natAbs*b.natAbs<=16777216*16777216:=Nat.mul_le_mul ha hb
 omega
theorem add1_con (n d m e:Int) (hn:n.natAbs<=16777216) (hd:d.natAbs<=16777216) (hm:m.natAbs<=16777216) (he:e.natAbs<=16777216) (hd0:0 < d) (he0:0 < e):Con Tryz.prog 130 [.v (.int .i64 n),.v (.int .i64 d),.v (.int .i64 m),.v (.int .i64 e)] (.v (rI (n*e+m*d) (d*e).toNat)):=by
 have b1:=mul_bound hn he
 have b2:=mul_bound hm hd
 have b3:=mul_bound hd he
 have p:=Int.mul_pos hd0 he0
 have hc:=ratio_con (n*e+m*d) (d*e).toNat (by omega) (by omega) (by omega) (by omega)
 have e1:(((d*e).toNat:Nat):Int)=d*e:=by omega
 rw [e1] at hc
 obtain ⟨rs,rn,rd,hres⟩:∃ a b c,rI (n*e+m*d) (d*e).toNat=.agg #[.bool a,.string b,.string c]:=by
  unfold rI
  split
  ·exact ⟨_,_,_,rfl⟩
  ·exact ⟨_,_,_,rfl⟩
 rw [hres] at hc ⊢
 obtain ⟨x,hx⟩:∃ x,x=n*e+m*d:=⟨_,rfl⟩
 obtain ⟨y,hy⟩:∃ x,x=d*e:=⟨_,rfl⟩
 have f1:std.ib .add .i64 (std.ib .mul .i64 n e) (std.ib .mul .i64 m d)=x:=by
  rw [s_mul,s_mul,s_add,w64 (n:=n*e) (by omega) (by omega),w64 (n:=m*d) (by omega) (by omega),w64 (by omega) (by omega),hx]
 have f2:std.ib .mul .i64 d e=y:=by rw [s_mul,w64 (by omega) (by omega),hy]
 rw [<-hx,<-hy] at hc
 refine Con.of ttOk mixed Tryz.func130 {} .nil 0 (by kernel_rfl) (fun P' E hP hE=>?_)
 clear hres hx hy e1 p b1 b2 b3
 cbv
 refine CallTo.con hP hE hc (by subst hE; exact ⟨congrArg (Value.int .i64) f1,congrArg (Value.int .i64) f2,trivial⟩) ?_
 cbv
theorem mul1_con (n d m e:Int) (hn:n.natAbs<=16777216) (hd:d.natAbs<=16777216) (hm:m.natAbs<=16777216) (he:e.natAbs<=16777216) (hd0:0 < d) (he0:0 < e):Con Tryz.prog 134 [.v (.int .i64 n),.v (.int .i64 d),.v (.int .i64 m),.v (.int .i64 e)] (.v (rI (n*m) (d*e).toNat)):=by
 have b1:=mul_bound hn hm
 have b3:=mul_bound hd he
 have p:=Int.mul_pos hd0 he0
 have hc:=ratio_con (n*m) (d*e).toNat (by omega) (by omega) (by omega) (by omega)
 have e1:(((d*e).toNat:Nat):Int)=d*e:=by omega
 rw [e1] at hc
 obtain ⟨rs,rn,rd,hres⟩:∃ a b c,rI (n*m) (d*e).toNat=.agg #[.bool a,.string b,.string c]:=by
  unfold rI
  split
  ·exact ⟨_,_,_,rfl⟩
  ·exact ⟨_,_,_,rfl⟩
 rw [hres] at hc ⊢
 obtain ⟨x,hx⟩:∃ x,x=n*m:=⟨_,rfl⟩
 obtain ⟨y,hy⟩:∃ x,x=d*e:=⟨_,rfl⟩
 have f1:std.ib .mul .i64 n m=x:=by rw [s_mul,w64 (by omega) (by omega),hx]
 have f2:std.ib .mul .i64 d e=y:=by rw [s_mul,w64 (by omega) (by omega),hy]
 rw [<-hx,<-hy] at hc
 refine Con.of ttOk mixed Tryz.func134 {} .nil 0 (by kernel_rfl) (fun P' E hP hE=>?_)
 clear hres hx hy e1 p b1 b3
 cbv
 refine CallTo.con hP hE hc (by subst hE; exact ⟨congrArg (Value.int .i64) f1,congrArg (Value.int .i64) f2,trivial⟩) ?_
 cbv
theorem cmp1_con (n d m e:Int) (hn:n.natAbs<=16777216) (hd:d.natAbs<=16777216) (hm:m.natAbs<=16777216) (he:e.natAbs<=16777216):Con Tryz.prog 187 [.v (.int .i64 n),.v (.int .i64 d),.v (.int .i64 m),.v (.int .i64 e)] (.v (.int .i64 (cmpI (n*e) (m*d)))):=by
 have b1:=mul_bound hn he
 have b2:=mul_bound hm hd
 obtain ⟨x,hx⟩:∃ x,x=n*e:=⟨_,rfl⟩
 obtain ⟨y,hy⟩:∃ x,x=m*d:=⟨_,rfl⟩
 rw [<-hx,<-hy]
 have f1:std.ib .mul .i64 n e=x:=by rw [s_mul,w64 (by omega) (by omega),hx]
 have f2:std.ib .mul .i64 m d=y:=by rw [s_mul,w64 (by omega) (by omega),hy]
 obtain ⟨r,hr⟩:∃ r,r=cmpI x y:=⟨_,rfl⟩
 rw [<-hr]
 refine Con.of ttOk mixed Tryz.func187 {} .nil 0 (by kernel_rfl) (fun P' E hP hE=>?_)
 cbv
 refine fork.mk ?_ ?_
 ·intro h1
  have h1':x < y:=by
   subst hE
   have h:std.ic .lss (std.ib .mul .i64 n e) (std.ib .mul .i64 m d)=true:=h1
   rw [f1,f2] at h
   simpa using h
  have e : -1=r:=by rw [hr,cmpI,if_pos h1']
  clear hr
  cbv
  exact congrArg (Value.int .i64) e
 ·intro h1
  have h1':¬ x < y:=by
   subst hE
   have h:std.ic .lss (std.ib .mul .i64 n e) (std.ib .mul .i64 m d)=false:=h1
   rw [f1,f2] at h
   simpa using h
  cbv
  refine fork.mk ?_ ?_
  ·intro h2
   have h2':x > y:=by
    subst hE
    have h:std.ic .gtr (std.ib .mul .i64 n e) (std.ib .mul .i64 m d)=true:=h2
    rw [f1,f2] at h
    simpa using h
   have e:1=r:=by rw [hr,cmpI,if_neg h1',if_pos h2']
   clear hr
   cbv
   exact congrArg (Value.int .i64) e
  ·intro h2
   have h2':¬ x > y:=by
    subst hE
    have h:std.ic .gtr (std.ib .mul .i64 n e) (std.ib .mul .i64 m d)=false:=h2
    rw [f1,f2] at h
    simpa using h
   have e:0=r:=by rw [hr,cmpI,if_neg h1',if_neg h2']
   clear hr
   cbv
   exact congrArg (Value.int .i64) e
end Go.Proofs.YtkipmmiiackdaaaGreat.Sx
