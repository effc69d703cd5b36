/- Part 21 of what the statement needs: an executor of Go texts, arithmetic, and contracts of the functions that are called. -/
import Derived.Test.YtkipmmiiackdaaaGreatCi20
set_option linter.unusedSimpArgs false
set_option linter.unusedVariables false
set_option maxHeartbeats 8000000
set_option maxRecDepth 100000
namespace Go.Proofs.YtkipmmiiackdaaaGreat.Sx
open Env (std)
theorem zval_cast (a:R):(zval a.neg a.num:Rat) / ((bv (dden a.den):Nat):Rat)=a.q:=by
 unfold R.q
 rw [Rat.mkRat_eq_div]; rfl
theorem quo_q {a b:R} {x y:Rat} {k l:Nat} (ha:Is k a x) (hb:Is l b y) (h:k+l<=134217728):Con Tryz.prog 43 [.v a.v,.v b.v] (.v (.tuple #[(cr (x / y)).v,.int .i64 (dvE y)])):=by
 have sa:=ha.sz (by omega)
 have sb:=hb.sz (by omega)
 have c1:=of98_con a.neg a.num a.den sa.2.1
 have c2:=of98_con b.neg b.num b.den sb.2.1
 have c3:=mul_con a.neg false a.num (dden b.den) sa.1 sb.2.2.1
 have c4:=mul_con false b.neg (dden a.den) b.num sa.2.2.1 sb.1
 have z3:=prod_size a.neg false a.num (dden b.den)
 have z4:=prod_size false b.neg (dden a.den) b.num
 have:=ha.n; have:=hb.n
 have c5:=new_q (decide (zval a.neg a.num*zval false (dden b.den) < 0)) (decide (zval false (dden a.den)*zval b.neg b.num < 0)) (mg (zval a.neg a.num*zval false (dden b.den)).natAbs) (mg (zval false (dden a.den)*zval b.neg b.num).natAbs) (by omega) (by omega)
 rw [zval_mg,zval_mg] at c5
 have hda:((bv (dden a.den):Nat):Rat) ≠ 0:=fun hh=>by have:=a.dn_pos; unfold R.dn at this; have:=Rat.natCast_eq_zero_iff.1 hh; omega
 have hdb:((bv (dden b.den):Nat):Rat) ≠ 0:=fun hh=>by have:=b.dn_pos; unfold R.dn at this; have:=Rat.natCast_eq_zero_iff.1 hh; omega
 have ex:=zval_cast a
 have ey:=zval_cast b
 rw [ha.q] at ex
 rw [hb.q] at ey
 have e1:((zval a.neg a.num*zval false (dden b.den):Int):Rat)=(zval a.neg a.num:Rat)*((bv (dden b.den):Nat):Rat):=by rw [Rat.intCast_mul]; rfl
 have e2:((zval false (dden a.den)*zval b.neg b.num:Int):Rat)=((bv (dden a.den):Nat):Rat)*(zval b.neg b.num:Rat):=by rw [Rat.intCast_mul]; rfl
 have e3:((zval a.neg a.num*zval false (dden b.den):Int):Rat) / ((zval false (dden a.den)*zval b.neg b.num:Int):Rat)=x / y:=by
  rw [e1,e2,<-ex,<-ey]
  generalize (zval a.neg a.num:Rat)=p at *
  generalize (zval b.neg b.num:Rat)=q at *
  generalize ((bv (dden a.den):Nat):Rat)=r at *
  generalize ((bv (dden b.den):Nat):Rat)=s at *
  by_cases hq:q=0
  ·subst hq
   have:(0:Rat) / s=0:=by grind
   rw [this,Rat.mul_zero]
   simp only [Rat.div_def,Rat.inv_zero,Rat.mul_zero]
  ·have hs:q / s ≠ 0:=by grind
   have hs2:r*q ≠ 0:=by grind
   grind
 have e4:dvE ((zval false (dden a.den)*zval b.neg b.num:Int):Rat)=dvE y:=by
  rw [e2,<-ey]
  generalize (zval b.neg b.num:Rat)=q at *
  generalize ((bv (dden a.den):Nat):Rat)=r at *
  generalize ((bv (dden b.den):Nat):Rat)=s at *
  unfold dvE
  have:r*q=0 ↔ q / s=0:=by
   constructor
   ·intro h; have:q=0:=by grind
    grind
   ·intro h; have:q=0:=by grind
    grind
  by_cases hh:r*q=0
  ·rw [if_pos hh,if_pos (this.1 hh)]
  ·rw [if_neg hh,if_neg (fun g=>hh (this.2 g))]
 rw [e3,e4] at c5
 clear e3 e4 e1 e2 ex ey hda hdb
 obtain ⟨r,hr⟩:∃ r,r=cr (x / y):=⟨_,rfl⟩
 obtain ⟨e,he⟩:∃ r,r=dvE y:=⟨_,rfl⟩
 rw [<-hr,<-he] at c5 ⊢
 obtain ⟨ea,hea⟩:∃ x,x=dden a.den:=⟨_,rfl⟩
 obtain ⟨eb,heb⟩:∃ x,x=dden b.den:=⟨_,rfl⟩
 rw [<-hea] at c1
 rw [<-heb] at c2
 rw [<-hea,<-heb] at c5
 rw [<-heb] at c3
 rw [<-hea] at c4
 obtain ⟨x1,hx1⟩:∃ r,r=decide (zval a.neg a.num*zval false eb < 0):=⟨_,rfl⟩
 obtain ⟨y1,hy1⟩:∃ r,r=mg (zval a.neg a.num*zval false eb).natAbs:=⟨_,rfl⟩
 obtain ⟨x2,hx2⟩:∃ r,r=decide (zval false ea*zval b.neg b.num < 0):=⟨_,rfl⟩
 obtain ⟨y2,hy2⟩:∃ r,r=mg (zval false ea*zval b.neg b.num).natAbs:=⟨_,rfl⟩
 rw [<-hx1,<-hx2,<-hy1,<-hy2] at c5
 unfold zV at c3 c4
 rw [<-hx1,<-hy1] at c3
 rw [<-hx2,<-hy2] at c4
 unfold rR fR at c1 c2
 unfold zR at c3 c4 c5
 clear z3 z4 sa sb ha hb hr he hea heb hx1 hx2 hy1 hy2
 obtain ⟨n1,u1,d1⟩:=a
 obtain ⟨n2,u2,d2⟩:=b
 refine Con.of ttOk mixed Tryz.func43 { ord:=[(1,(.op 0 (.op 2 (.br 1 (.br 3 (.br 4 (.op 5 (.op 6 (.op 7 .nil))) (.br 5 (.op 4 (.op 6 (.op 7 .nil))) .stop)) (.br 4 (.br 3 (.op 5 (.op 6 (.op 7 .nil))) (.br 5 (.op 3 (.op 6 (.op 7 .nil))) .stop)) (.br 5 (.br 3 (.op 4 (.op 6 (.op 7 .nil))) (.br 4 (.op 3 (.op 6 (.op 7 .nil))) .stop)) .stop))) (.br 4 (.br 1 (.br 3 (.op 5 (.op 6 (.op 7 .nil))) (.br 5 (.op 3 (.op 6 (.op 7 .nil))) .stop)) (.br 5 (.op 1 (.op 3 (.op 6 (.op 7 .nil)))) .stop)) (.br 5 (.br 1 (.br 3 (.op 4 (.op 6 (.op 7 .nil))) (.br 4 (.op 3 (.op 6 (.op 7 .nil))) .stop)) (.br 4 (.op 1 (.op 3 (.op 6 (.op 7 .nil)))) .stop)) .stop)))))),(2,[0,1,2,3,5,6,7,8,4,9,10,11,12,13,14])] } .nil 0 (by kernel_rfl) (fun P' E hP hE=>?_)
 cbv
 refine DrawTo.by (κ:=Unit) (fun _=>[(6,.p 5 0),(7,.p 6 0)]) (fun _=>[]) (fun _=>[.cells [.v (.bool n1),.v (.string u1),.v (.bool false),.v (.string ea)] 127,.cells [.v (.bool n2),.v (.string u2),.v (.bool false),.v (.string eb)] 127]) (fun _=>True) ?_ ?_
 ·cbv
  repeat' first
   | exact True.intro
   | (refine Both.mk ?_ ?_<;>cbv)
   | (refine CallTo.w hP hE c1 (by subst hE; exact ⟨rfl,trivial⟩) ?_; cbv)
   | (refine CallTo.w hP hE c2 (by subst hE; exact ⟨rfl,trivial⟩) ?_; cbv)
   | (refine ⟨(),[],trivial,?_⟩; cbv; done)
   | (refine ⟨(),[0,1,2,3,4,6,5],trivial,?_⟩; cbv; done)
   | (refine ⟨(),[],trivial,?_⟩; cbv; subst hE; and_intros<;>(simp; done))
   | (refine ⟨(),[0,1,2,3,4,6,5],trivial,?_⟩; cbv; subst hE; and_intros<;>(simp; done))
 ·intro k hk
  clear hk
  cbv
  refine CallTo.w hP hE c3 (by subst hE; exact ⟨rfl,rfl,trivial⟩) ?_
  cbv
  refine CallTo.w hP hE c4 (by subst hE; exact ⟨rfl,rfl,trivial⟩) ?_
  cbv
  refine CallTo.w hP hE c5 (by subst hE; exact ⟨rfl,rfl,trivial⟩) ?_
  cbv
theorem ratioQ_q (n d:Int) (hn0 : -9223372036854775808<=n) (hn1:n < 9223372036854775808) (hd0 : -9223372036854775808<=d) (hd1:d < 9223372036854775808):Con Tryz.prog 38 [.v (.int .i64 n),.v (.int .i64 d)] (.v (.tuple #[(cr ((n:Rat) / (d:Rat))).v,.int .i64 (dvE (d:Rat))])):=by
 have c1:=of_con n hn0 hn1
 have c2:=of_con d hd0 hd1
 have:=mgz_size hn0 hn1; have:=mgz_size hd0 hd1
 have c3:=new_q (decide (n < 0)) (decide (d < 0)) (mg n.natAbs) (mg d.natAbs) (by omega) (by omega)
 rw [zval_mg,zval_mg] at c3
 obtain ⟨r,hr⟩:∃ r,r=cr ((n:Rat) / (d:Rat)):=⟨_,rfl⟩
 obtain ⟨e,he⟩:∃ r,r=dvE (d:Rat):=⟨_,rfl⟩
 rw [<-hr,<-he] at c3 ⊢
 obtain ⟨x1,hx1⟩:∃ r,r=decide (n < 0):=⟨_,rfl⟩
 obtain ⟨y1,hy1⟩:∃ r,r=mg n.natAbs:=⟨_,rfl⟩
 obtain ⟨x2,hx2⟩:∃ r,r=decide (d < 0):=⟨_,rfl⟩
 obtain ⟨y2,hy2⟩:∃ r,r=mg d.natAbs:=⟨_,rfl⟩
 unfold zV at c1 c2
 rw [<-hx1,<-hy1] at c1
 rw [<-hx2,<-hy2] at c2
 rw [<-hx1,<-hy1,<-hx2,<-hy2] at c3
 unfold zR at c1 c2 c3
 clear hr he hx1 hy1 hx2 hy2
 refine Con.of ttOk mixed Tryz.func38 {} .nil 0 (by kernel_rfl) (fun P' E hP hE=>?_)
 cbv
 refine CallTo.w hP hE c1 (by subst hE; exact ⟨rfl,trivial⟩) ?_
 cbv
 refine CallTo.w hP hE c2 (by subst hE; exact ⟨rfl,trivial⟩) ?_
 cbv
 refine CallTo.w hP hE c3 (by subst hE; exact ⟨rfl,rfl,trivial⟩) ?_
 cbv
theorem fit_val {E:Env} {h:List Blk} {a:AV} {b:Bool} {y:Value} (hv:AV.val a=some (b,y)):fit E h a (.v y):=by
 cases a<;>simp [AV.val] at hv
 ·exact hv.2
 ·exact hv.2
/-- Where the new blocks of a drawn region lie: read off the slots that point to them. -/
def autoR (chg:List (Nat × AV)) (s:St) (n:Nat):List Nat:=
 (upTo 0 n).map fun i=>match chg.findSome? (fun e=>match e.2 with
  | .p b _=>if b == i then (match s.t.getD e.1 .any with
   | .p b' _=>some b'
   | _=>none) else none
  | _=>none) with
  | some b'=>b'
  | none=>i
/-- All ends of a drawn region are told as one state: which slots it tells of, what is new; where the new blocks lie is found by program. -/
theorem DrawTo.byU {P:Program} {m:Nat} {c:Unit->Code} {B:Unit->(X->St->Prop)->Prop} {K:X->St->Prop} {s:St} (chg:List (Nat × AV)) (add:List Blk)
  (hb:B () (fun x s'=>match x with
   | .n=>St.le m (autoR chg s' (s.h.length+add.length)) s' ⟨setAll (anyAll s.t (dsts (c ()))) chg,s.h++add⟩
   | x=>K x s'))
  (hk:K .n ⟨setAll (anyAll s.t (dsts (c ()))) chg,s.h++add⟩):DrawTo P m c B K s:=by
 refine ⟨fun ro hB w0 β0 β M a w ht hw hx=>?_⟩
 refine wpIn_mono (hB w0 β0 _ β M a w hb ht hw hx) (fun e a w hq=>?_)
 cases e with
 | normal=>
  obtain ⟨s',β',M',h1,h2,h3,h5⟩:=hq
  obtain ⟨q1,q2,q3⟩:=St.le_rel h5 h1 h2 h3
  exact ⟨_,_,M',q1,q2,q3,hk⟩
 | ret=>exact hq
 | exit j=>exact hq
 | _=>exact hq
/-- A point by its values. -/
structure Pq where
 x:Rat
 y:Rat
structure Sq where
 a:Pq
 b:Pq
/-- A box: its least and its greatest corner. -/
structure Bq where
 lo:Pq
 hi:Pq
structure Bx where
 lo:Pt
 hi:Pt
abbrev Bx.c (s:Bx):List Value:=[.bool s.lo.x.neg,.string s.lo.x.num,.string s.lo.x.den,.bool s.lo.y.neg,.string s.lo.y.num,.string s.lo.y.den,.bool s.hi.x.neg,.string s.hi.x.num,.string s.hi.x.den,.bool s.hi.y.neg,.string s.hi.y.num,.string s.hi.y.den]
abbrev Bx.v (r:Bx):Value:=.agg r.c.toArray
/-- As they lie in cells. -/
abbrev R.av (p:R):List AV:=[.v (.bool p.neg),.v (.string p.num),.v (.string p.den)]
abbrev Pt.av (p:Pt):List AV:=[.v (.bool p.x.neg),.v (.string p.x.num),.v (.string p.x.den),.v (.bool p.y.neg),.v (.string p.y.num),.v (.string p.y.den)]
abbrev Sg.av (p:Sg):List AV:=p.c.map .v
def crP (p:Pq):Pt:=⟨cr p.x,cr p.y⟩
def crS (s:Sq):Sg:=⟨crP s.a,crP s.b⟩
def crB (s:Bq):Bx:=⟨crP s.lo,crP s.hi⟩
def Pt.q (p:Pt):Pq:=⟨p.x.q,p.y.q⟩
def Sg.q (p:Sg):Sq:=⟨p.a.q,p.b.q⟩
def Bx.q (p:Bx):Bq:=⟨p.lo.q,p.hi.q⟩
structure BdP (k:Nat) (p:Pq):Prop where
 x:Bd k p.x
 y:Bd k p.y
structure BdS (k:Nat) (s:Sq):Prop where
 a:BdP k s.a
 b:BdP k s.b
structure BdB (k:Nat) (s:Bq):Prop where
 lo:BdP k s.lo
 hi:BdP k s.hi
structure IsP (k:Nat) (v:Pt) (p:Pq):Prop where
 x:Is k v.x p.x
 y:Is k v.y p.y
structure IsS (k:Nat) (v:Sg) (p:Sq):Prop where
 a:IsP k v.a p.a
 b:IsP k v.b p.b
structure IsB (k:Nat) (v:Bx) (p:Bq):Prop where
 lo:IsP k v.lo p.lo
 hi:IsP k v.hi p.hi
theorem BdP.is {k:Nat} {p:Pq} (h:BdP k p):IsP k (crP p) p:=⟨h.x.is,h.y.is⟩
theorem BdS.is {k:Nat} {p:Sq} (h:BdS k p):IsS k (crS p) p:=⟨h.a.is,h.b.is⟩
theorem BdB.is {k:Nat} {p:Bq} (h:BdB k p):IsB k (crB p) p:=⟨h.lo.is,h.hi.is⟩
theorem IsP.b {k:Nat} {a:Pt} {p:Pq} (h:IsP k a p):BdP k p:=⟨h.x.b,h.y.b⟩
theorem IsS.bd {k:Nat} {a:Sg} {p:Sq} (h:IsS k a p):BdS k p:=⟨h.a.b,h.b.b⟩
theorem IsB.bd {k:Nat} {a:Bx} {p:Bq} (h:IsB k a p):BdB k p:=⟨h.lo.b,h.hi.b⟩
theorem BdP.mono {k l:Nat} {p:Pq} (h:BdP k p) (hl:k<=l):BdP l p:=⟨h.x.mono hl,h.y.mono hl⟩
theorem BdS.mono {k l:Nat} {p:Sq} (h:BdS k p) (hl:k<=l):BdS l p:=⟨h.a.mono hl,h.b.mono hl⟩
theorem IsP.mono {k l:Nat} {a:Pt} {p:Pq} (h:IsP k a p) (hl:k<=l):IsP l a p:=⟨h.x.mono hl,h.y.mono hl⟩
theorem IsS.mono {k l:Nat} {a:Sg} {p:Sq} (h:IsS k a p) (hl:k<=l):IsS l a p:=⟨h.a.mono hl,h.b.mono hl⟩
theorem Pq.ext' {p q:Pq} (hx:p.x=q.x) (hy:p.y=q.y):p=q:=by
 cases p; cases q; simp at hx hy; simp [hx,hy]
theorem Pq.iff {p q:Pq}:p=q ↔ p.x=q.x/\p.y=q.y:=⟨fun h=>by rw [h]; exact ⟨rfl,rfl⟩,fun h=>Pq.ext' h.1 h.2⟩
theorem crP_iff {p q:Pq}:crP p=crP q ↔ p=q:=by
 unfold crP
 rw [Pt.mk.injEq,cr_iff,cr_iff,Pq.iff]
def Pq.add (p q:Pq):Pq:=⟨p.x+q.x,p.y+q.y⟩
def Pq.sub (p q:Pq):Pq:=⟨p.x - q.x,p.y - q.y⟩
def Pq.scale (p:Pq) (t:Rat):Pq:=⟨p.x*t,p.y*t⟩
def Pq.dot (p q:Pq):Rat:=p.x*q.x+p.y*q.y
def Pq.cross (p q:Pq):Rat:=p.x*q.y - p.y*q.x
def Pq.at (p q:Pq) (t:Rat):Pq:=p.add ((q.sub p).scale t)
/-- The lexicographic order of points. -/
def cmpP (p q:Pq):Int:=if cmpQ p.x q.x ≠ 0 then cmpQ p.x q.x else cmpQ p.y q.y
def orQ (a b c:Pq):Int:=cmpQ ((b.sub a).cross (c.sub a)) 0
def btwQ (a b p:Pq):Bool:=decide (orQ a b p=0/\0<=cmpP a p*cmpP p b/\(cmpP a b ≠ 0\/cmpP a p=0))
theorem BdP.add {k l:Nat} {p q:Pq} (hp:BdP k p) (hq:BdP l q):BdP (k+l+1) (p.add q):=⟨hp.x.add hq.x,hp.y.add hq.y⟩
theorem BdP.sub {k l:Nat} {p q:Pq} (hp:BdP k p) (hq:BdP l q):BdP (k+l+1) (p.sub q):=⟨hp.x.sub hq.x,hp.y.sub hq.y⟩
theorem BdP.scale {k l:Nat} {p:Pq} {t:Rat} (hp:BdP k p) (ht:Bd l t):BdP (k+l) (p.scale t):=⟨hp.x.mul ht,hp.y.mul ht⟩
theorem BdP.dot {k l:Nat} {p q:Pq} (hp:BdP k p) (hq:BdP l q):Bd (2*(k+l)+1) (p.dot q):=((hp.x.mul hq.x).add (hp.y.mul hq.y)).mono (by omega)
theorem BdP.cross {k l:Nat} {p q:Pq} (hp:BdP k p) (hq:BdP l q):Bd (2*(k+l)+1) (p.cross q):=((hp.x.mul hq.y).sub (hp.y.mul hq.x)).mono (by omega)
theorem BdP.at {k l m:Nat} {p q:Pq} {t:Rat} (hp:BdP k p) (hq:BdP l q) (ht:Bd m t):BdP (2*k+l+m+2) (p.at q t):=(hp.add ((hq.sub hp).scale ht)).mono (by omega)
theorem add_c {P':Program} {E:Env} (hP:P'=Tryz.prog) (hE:E=std) {hh:List Blk} {K:AV->List Blk->Prop} {an0:Bool} {au0 ad0:ByteArray} {x:Rat} {k:Nat} {bn0:Bool} {bu0 bd0:ByteArray} {y:Rat} {l:Nat} (ha:Is k ⟨an0,au0,ad0⟩ x) (hb:Is l ⟨bn0,bu0,bd0⟩ y) (h:k+l<=134217728) (hk:∀ r0:R,r0=cr (x+y)->Is (k+l+1) r0 (x+y)->K (.v (r0.v)) hh):CallTo P' hh 45 [.v (.agg #[.bool an0,.string au0,.string ad0]),.v (.agg #[.bool bn0,.string bu0,.string bd0])] K:=by
 refine CallTo.con hP hE (add_q ha hb h) ⟨rfl,rfl,trivial⟩ ?_
 have:=hk _ rfl (ha.b.add hb.b).is 
 simp only [outV,outW,List.append_nil]
 exact this
theorem add_p {a:R} {x:Rat} {k:Nat} {b:R} {y:Rat} {l:Nat} (ha:Is k a x) (hb:Is l b y) (h:k+l<=134217728):∃ (r0:R),r0=cr (x+y)/\Is (k+l+1) r0 (x+y)/\Con Tryz.prog 45 [.v a.v,.v b.v] (.v (r0.v)):=⟨_,rfl,(ha.b.add hb.b).is,add_q ha hb h⟩
theorem sub_c {P':Program} {E:Env} (hP:P'=Tryz.prog) (hE:E=std) {hh:List Blk} {K:AV->List Blk->Prop} {an0:Bool} {au0 ad0:ByteArray} {x:Rat} {k:Nat} {bn0:Bool} {bu0 bd0:ByteArray} {y:Rat} {l:Nat} (ha:Is k ⟨an0,au0,ad0⟩ x) (hb:Is l ⟨bn0,bu0,bd0⟩ y) (h:k+l<=134217728) (hk:∀ r0:R,r0=cr (x - y)->Is (k+l+1) r0 (x - y)->K (.v (r0.v)) hh):CallTo P' hh 202 [.v (.agg #[.bool an0,.string au0,.string ad0]),.v (.agg #[.bool bn0,.string bu0,.string bd0])] K:=by
 refine CallTo.con hP hE (sub_q ha hb h) ⟨rfl,rfl,trivial⟩ ?_
 have:=hk _ rfl (ha.b.sub hb.b).is 
 simp only [outV,outW,List.append_nil]
 exact this
theorem mul_c {P':Program} {E:Env} (hP:P'=Tryz.prog) (hE:E=std) {hh:List Blk} {K:AV->List Blk->Prop} {an0:Bool} {au0 ad0:ByteArray} {x:Rat} {k:Nat} {bn0:Bool} {bu0 bd0:ByteArray} {y:Rat} {l:Nat} (ha:Is k ⟨an0,au0,ad0⟩ x) (hb:Is l ⟨bn0,bu0,bd0⟩ y) (h:k+l<=134217728) (hk:∀ r0:R,r0=cr (x*y)->Is (k+l) r0 (x*y)->K (.v (r0.v)) hh):CallTo P' hh 46 [.v (.agg #[.bool an0,.string au0,.string ad0]),.v (.agg #[.bool bn0,.string bu0,.string bd0])] K:=by
 refine CallTo.con hP hE (mul_q ha hb h) ⟨rfl,rfl,trivial⟩ ?_
 have:=hk _ rfl (ha.b.mul hb.b).is 
 simp only [outV,outW,List.append_nil]
 exact this
theorem mul_p {a:R} {x:Rat} {k:Nat} {b:R} {y:Rat} {l:Nat} (ha:Is k a x) (hb:Is l b y) (h:k+l<=134217728):∃ (r0:R),r0=cr (x*y)/\Is (k+l) r0 (x*y)/\Con Tryz.prog 46 [.v a.v,.v b.v] (.v (r0.v)):=⟨_,rfl,(ha.b.mul hb.b).is,mul_q ha hb h⟩
theorem quo_p {a:R} {x:Rat} {k:Nat} {b:R} {y:Rat} {l:Nat} (ha:Is k a x) (hb:Is l b y) (h:k+l<=134217728):∃ (r0:R) (r1:Int),r0=cr (x / y)/\Is (k+l) r0 (x / y)/\r1=dvE y/\Con Tryz.prog 43 [.v a.v,.v b.v] (.v (.tuple #[r0.v,.int .i64 r1])):=⟨_,_,rfl,(ha.b.div hb.b).is,rfl,quo_q ha hb h⟩
theorem cmp_c {P':Program} {E:Env} (hP:P'=Tryz.prog) (hE:E=std) {hh:List Blk} {K:AV->List Blk->Prop} {an0:Bool} {au0 ad0:ByteArray} {x:Rat} {k:Nat} {bn0:Bool} {bu0 bd0:ByteArray} {y:Rat} {l:Nat} (ha:Is k ⟨an0,au0,ad0⟩ x) (hb:Is l ⟨bn0,bu0,bd0⟩ y) (h:k+l<=134217728) (hk:∀ r0:Int,r0=cmpQ x y->K (.v (.int .i64 r0)) hh):CallTo P' hh 88 [.v (.agg #[.bool an0,.string au0,.string ad0]),.v (.agg #[.bool bn0,.string bu0,.string bd0])] K:=by
 refine CallTo.con hP hE (cmp_q ha hb h) ⟨rfl,rfl,trivial⟩ ?_
 have:=hk _ rfl
 simp only [outV,outW,List.append_nil]
 exact this
theorem cmp_p {a:R} {x:Rat} {k:Nat} {b:R} {y:Rat} {l:Nat} (ha:Is k a x) (hb:Is l b y) (h:k+l<=134217728):∃ (r0:Int),r0=cmpQ x y/\Con Tryz.prog 88 [.v a.v,.v b.v] (.v (.int .i64 r0)):=⟨_,rfl,cmp_q ha hb h⟩
theorem sign_c {P':Program} {E:Env} (hP:P'=Tryz.prog) (hE:E=std) {hh:List Blk} {K:AV->List Blk->Prop} {an0:Bool} {au0 ad0:ByteArray} {x:Rat} {k:Nat} (ha:Is k ⟨an0,au0,ad0⟩ x) (h:k<=134217728) (hk:∀ r0:Int,r0=cmpQ x 0->K (.v (.int .i64 r0)) hh):CallTo P' hh 97 [.v (.agg #[.bool an0,.string au0,.string ad0])] K:=by
 refine CallTo.con hP hE (sign_q ha h) ⟨rfl,trivial⟩ ?_
 have:=hk _ rfl
 simp only [outV,outW,List.append_nil]
 exact this
theorem each_ok:InlOk Tryz.prog [(113,Tryz.f113,{ ord:=[(1,[0,1,2,3,4,6,7,8,9,10,5,11,12,13])] })]:=
 InlOk.cons Tryz.func113 (by kernel_rfl) .nil
theorem vadd_q {a:Pt} {A:Pq} {k:Nat} {b:Pt} {B:Pq} {l:Nat} (ha:IsP k a A) (hb:IsP l b B) (h:k+l<=134217728):Con Tryz.prog 27 [.v a.v,.v b.v] (.v ((crP (A.add B)).v)):=by
 obtain ⟨⟨an0,au0,ad0⟩,⟨an1,au1,ad1⟩⟩:=a
 have hax:Is k ⟨an0,au0,ad0⟩ A.x:=ha.x
 have hay:Is k ⟨an1,au1,ad1⟩ A.y:=ha.y
 obtain ⟨⟨bn0,bu0,bd0⟩,⟨bn1,bu1,bd1⟩⟩:=b
 have hbx:Is l ⟨bn0,bu0,bd0⟩ B.x:=hb.x
 have hby:Is l ⟨bn1,bu1,bd1⟩ B.y:=hb.y
 obtain ⟨r0,e0⟩:∃ r,r=crP (A.add B):=⟨_,rfl⟩
 rw [<-e0]
 refine Con.of ttOk mixed Tryz.func27 {} each_ok 1 (by kernel_rfl) (fun P' E hP hE=>?_)
 cbv
 refine add_c hP hE (by assumption) (by assumption) (by omega) ?_
 intro c1 ec1 hc1
 cbv
 refine add_c hP hE (by assumption) (by assumption) (by omega) ?_
 intro c2 ec2 hc2
 cbv
 rw [e0,ec1,ec2]; rfl
theorem vsub_q {a:Pt} {A:Pq} {k:Nat} {b:Pt} {B:Pq} {l:Nat} (ha:IsP k a A) (hb:IsP l b B) (h:k+l<=134217728):Con Tryz.prog 114 [.v a.v,.v b.v] (.v ((crP (A.sub B)).v)):=by
 obtain ⟨⟨an0,au0,ad0⟩,⟨an1,au1,ad1⟩⟩:=a
 have hax:Is k ⟨an0,au0,ad0⟩ A.x:=ha.x
 have hay:Is k ⟨an1,au1,ad1⟩ A.y:=ha.y
 obtain ⟨⟨bn0,bu0,bd0⟩,⟨bn1,bu1,bd1⟩⟩:=b
 have hbx:Is l ⟨bn0,bu0,bd0⟩ B.x:=hb.x
 have hby:Is l ⟨bn1,bu1,bd1⟩ B.y:=hb.y
 obtain ⟨r0,e0⟩:∃ r,r=crP (A.sub B):=⟨_,rfl⟩
 rw [<-e0]
 refine Con.of ttOk mixed Tryz.func114 {} each_ok 1 (by kernel_rfl) (fun P' E hP hE=>?_)
 cbv
 refine sub_c hP hE (by assumption) (by assumption) (by omega) ?_
 intro c1 ec1 hc1
 cbv
 refine sub_c hP hE (by assumption) (by assumption) (by omega) ?_
 intro c2 ec2 hc2
 cbv
 rw [e0,ec1,ec2]; rfl
theorem vscale_q {a:Pt} {A:Pq} {k:Nat} {b:R} {x:Rat} {l:Nat} (ha:IsP k a A) (hb:Is l b x) (h:k+l<=134217728):Con Tryz.prog 31 [.v a.v,.v b.v] (.v ((crP (A.scale x)).v)):=by
 obtain ⟨⟨an0,au0,ad0⟩,⟨an1,au1,ad1⟩⟩:=a
 have hax:Is k ⟨an0,au0,ad0⟩ A.x:=ha.x
 have hay:Is k ⟨an1,au1,ad1⟩ A.y:=ha.y
 obtain ⟨bn0,bu0,bd0⟩:=b
 obtain ⟨r0,e0⟩:∃ r,r=crP (A.scale x):=⟨_,rfl⟩
 rw [<-e0]
 refine Con.of ttOk mixed Tryz.func31 {} each_ok 1 (by kernel_rfl) (fun P' E hP hE=>?_)
 cbv
 refine mul_c hP hE (by assumption) (by assumption) (by omega) ?_
 intro c1 ec1 hc1
 cbv
 refine mul_c hP hE (by assumption) (by assumption) (by omega) ?_
 intro c2 ec2 hc2
 cbv
 rw [e0,ec1,ec2]; rfl
theorem vdot_q {a:Pt} {A:Pq} {k:Nat} {b:Pt} {B:Pq} {l:Nat} (ha:IsP k a A) (hb:IsP l b B) (h:2*(k+l)<=134217728):Con Tryz.prog 191 [.v a.v,.v b.v] (.v ((cr (A.dot B)).v)):=by
 obtain ⟨⟨an0,au0,ad0⟩,⟨an1,au1,ad1⟩⟩:=a
 have hax:Is k ⟨an0,au0,ad0⟩ A.x:=ha.x
 have hay:Is k ⟨an1,au1,ad1⟩ A.y:=ha.y
 obtain ⟨⟨bn0,bu0,bd0⟩,⟨bn1,bu1,bd1⟩⟩:=b
 have hbx:Is l ⟨bn0,bu0,bd0⟩ B.x:=hb.x
 have hby:Is l ⟨bn1,bu1,bd1⟩ B.y:=hb.y
 obtain ⟨r0,e0⟩:∃ r,r=cr (A.dot B):=⟨_,rfl⟩
 rw [<-e0]
 refine Con.of ttOk mixed Tryz.func191 {} each_ok 1 (by kernel_rfl) (fun P' E hP hE=>?_)
 cbv
 refine mul_c hP hE (by assumption) (by assumption) (by omega) ?_
 intro c1 ec1 hc1
 cbv
 refine mul_c hP hE (by assumption) (by assumption) (by omega) ?_
 intro c2 ec2 hc2
 cbv
 refine add_c hP hE (by assumption) (by assumption) (by omega) ?_
 intro c3 ec3 hc3
 cbv
 rw [e0,ec3]; rfl
theorem vcross_q {a:Pt} {A:Pq} {k:Nat} {b:Pt} {B:Pq} {l:Nat} (ha:IsP k a A) (hb:IsP l b B) (h:2*(k+l)<=134217728):Con Tryz.prog 112 [.v a.v,.v b.v] (.v ((cr (A.cross B)).v)):=by
 obtain ⟨⟨an0,au0,ad0⟩,⟨an1,au1,ad1⟩⟩:=a
 have hax:Is k ⟨an0,au0,ad0⟩ A.x:=ha.x
 have hay:Is k ⟨an1,au1,ad1⟩ A.y:=ha.y
 obtain ⟨⟨bn0,bu0,bd0⟩,⟨bn1,bu1,bd1⟩⟩:=b
 have hbx:Is l ⟨bn0,bu0,bd0⟩ B.x:=hb.x
 have hby:Is l ⟨bn1,bu1,bd1⟩ B.y:=hb.y
 obtain ⟨r0,e0⟩:∃ r,r=cr (A.cross B):=⟨_,rfl⟩
 rw [<-e0]
 refine Con.of ttOk mixed Tryz.func112 {} each_ok 1 (by kernel_rfl) (fun P' E hP hE=>?_)
 cbv
 refine mul_c hP hE (by assumption) (by assumption) (by omega) ?_
 intro c1 ec1 hc1
 cbv
 refine mul_c hP hE (by assumption) (by assumption) (by omega) ?_
 intro c2 ec2 hc2
 cbv
 refine sub_c hP hE (by assumption) (by assumption) (by omega) ?_
 intro c3 ec3 hc3
 cbv
 rw [e0,ec3]; rfl
theorem vadd_c {P':Program} {E:Env} (hP:P'=Tryz.prog) (hE:E=std) {hh:List Blk} {K:AV->List Blk->Prop} {an0 an1:Bool} {au0 ad0 au1 ad1:ByteArray} {A:Pq} {k:Nat} {bn0 bn1:Bool} {bu0 bd0 bu1 bd1:ByteArray} {B:Pq} {l:Nat} (ha:IsP k ⟨⟨an0,au0,ad0⟩,⟨an1,au1,ad1⟩⟩ A) (hb:IsP l ⟨⟨bn0,bu0,bd0⟩,⟨bn1,bu1,bd1⟩⟩ B) (h:k+l<=134217728) (hk:∀ r0:Pt,r0=crP (A.add B)->IsP (k+l+1) r0 (A.add B)->Is (k+l+1) r0.x (A.add B).x->Is (k+l+1) r0.y (A.add B).y->K (.v (r0.v)) hh):CallTo P' hh 27 [.v (.agg #[.bool an0,.string au0,.string ad0,.bool an1,.string au1,.string ad1]),.v (.agg #[.bool bn0,.string bu0,.string bd0,.bool bn1,.string bu1,.string bd1])] K:=by
 refine CallTo.con hP hE (vadd_q ha hb h) ⟨rfl,rfl,trivial⟩ ?_
 have:=hk _ rfl (ha.b.add hb.b).is (ha.b.add hb.b).is.x (ha.b.add hb.b).is.y
 simp only [outV,outW,List.append_nil]
 exact this
theorem vadd_p {a:Pt} {A:Pq} {k:Nat} {b:Pt} {B:Pq} {l:Nat} (ha:IsP k a A) (hb:IsP l b B) (h:k+l<=134217728):∃ (r0:Pt),r0=crP (A.add B)/\IsP (k+l+1) r0 (A.add B)/\Con Tryz.prog 27 [.v a.v,.v b.v] (.v (r0.v)):=⟨_,rfl,(ha.b.add hb.b).is,vadd_q ha hb h⟩
theorem vsub_c {P':Program} {E:Env} (hP:P'=Tryz.prog) (hE:E=std) {hh:List Blk} {K:AV->List Blk->Prop} {an0 an1:Bool} {au0 ad0 au1 ad1:ByteArray} {A:Pq} {k:Nat} {bn0 bn1:Bool} {bu0 bd0 bu1 bd1:ByteArray} {B:Pq} {l:Nat} (ha:IsP k ⟨⟨an0,au0,ad0⟩,⟨an1,au1,ad1⟩⟩ A) (hb:IsP l ⟨⟨bn0,bu0,bd0⟩,⟨bn1,bu1,bd1⟩⟩ B) (h:k+l<=134217728) (hk:∀ r0:Pt,r0=crP (A.sub B)->IsP (k+l+1) r0 (A.sub B)->Is (k+l+1) r0.x (A.sub B).x->Is (k+l+1) r0.y (A.sub B).y->K (.v (r0.v)) hh):CallTo P' hh 114 [.v (.agg #[.bool an0,.string au0,.string ad0,.bool an1,.string au1,.string ad1]),.v (.agg #[.bool bn0,.string bu0,.string bd0,.bool bn1,.string bu1,.string bd1])] K:=by
 refine CallTo.con hP hE (vsub_q ha hb h) ⟨rfl,rfl,trivial⟩ ?_
 have:=hk _ rfl (ha.b.sub hb.b).is (ha.b.sub hb.b).is.x (ha.b.sub hb.b).is.y
 simp only [outV,outW,List.append_nil]
 exact this
theorem vsub_p {a:Pt} {A:Pq} {k:Nat} {b:Pt} {B:Pq} {l:Nat} (ha:IsP k a A) (hb:IsP l b B) (h:k+l<=134217728):∃ (r0:Pt),r0=crP (A.sub B)/\IsP (k+l+1) r0 (A.sub B)/\Con Tryz.prog 114 [.v a.v,.v b.v] (.v (r0.v)):=⟨_,rfl,(ha.b.sub hb.b).is,vsub_q ha hb h⟩
theorem vscale_c {P':Program} {E:Env} (hP:P'=Tryz.prog) (hE:E=std) {hh:List Blk} {K:AV->List Blk->Prop} {an0 an1:Bool} {au0 ad0 au1 ad1:ByteArray} {A:Pq} {k:Nat} {bn0:Bool} {bu0 bd0:ByteArray} {x:Rat} {l:Nat} (ha:IsP k ⟨⟨an0,au0,ad0⟩,⟨an1,au1,ad1⟩⟩ A) (hb:Is l ⟨bn0,bu0,bd0⟩ x) (h:k+l<=134217728) (hk:∀ r0:Pt,r0=crP (A.scale x)->IsP (k+l) r0 (A.scale x)->Is (k+l) r0.x (A.scale x).x->Is (k+l) r0.y (A.scale x).y->K (.v (r0.v)) hh):CallTo P' hh 31 [.v (.agg #[.bool an0,.string au0,.string ad0,.bool an1,.string au1,.string ad1]),.v (.agg #[.bool bn0,.string bu0,.string bd0])] K:=by
 refine CallTo.con hP hE (vscale_q ha hb h) ⟨rfl,rfl,trivial⟩ ?_
 have:=hk _ rfl (ha.b.scale hb.b).is (ha.b.scale hb.b).is.x (ha.b.scale hb.b).is.y
 simp only [outV,outW,List.append_nil]
 exact this
theorem vscale_p {a:Pt} {A:Pq} {k:Nat} {b:R} {x:Rat} {l:Nat} (ha:IsP k a A) (hb:Is l b x) (h:k+l<=134217728):∃ (r0:Pt),r0=crP (A.scale x)/\IsP (k+l) r0 (A.scale x)/\Con Tryz.prog 31 [.v a.v,.v b.v] (.v (r0.v)):=⟨_,rfl,(ha.b.scale hb.b).is,vscale_q ha hb h⟩
theorem vcross_c {P':Program} {E:Env} (hP:P'=Tryz.prog) (hE:E=std) {hh:List Blk} {K:AV->List Blk->Prop} {an0 an1:Bool} {au0 ad0 au1 ad1:ByteArray} {A:Pq} {k:Nat} {bn0 bn1:Bool} {bu0 bd0 bu1 bd1:ByteArray} {B:Pq} {l:Nat} (ha:IsP k ⟨⟨an0,au0,ad0⟩,⟨an1,au1,ad1⟩⟩ A) (hb:IsP l ⟨⟨bn0,bu0,bd0⟩,⟨bn1,bu1,bd1⟩⟩ B) (h:2*(k+l)<=134217728) (hk:∀ r0:R,r0=cr (A.cross B)->Is (2*(k+l)+1) r0 (A.cross B)->K (.v (r0.v)) hh):CallTo P' hh 112 [.v (.agg #[.bool an0,.string au0,.string ad0,.bool an1,.string au1,.string ad1]),.v (.agg #[.bool bn0,.string bu0,.string bd0,.bool bn1,.string bu1,.string bd1])] K:=by
 refine CallTo.con hP hE (vcross_q ha hb h) ⟨rfl,rfl,trivial⟩ ?_
 have:=hk _ rfl (ha.b.cross hb.b).is 
 simp only [outV,outW,List.append_nil]
 exact this
theorem vcross_p {a:Pt} {A:Pq} {k:Nat} {b:Pt} {B:Pq} {l:Nat} (ha:IsP k a A) (hb:IsP l b B) (h:2*(k+l)<=134217728):∃ (r0:R),r0=cr (A.cross B)/\Is (2*(k+l)+1) r0 (A.cross B)/\Con Tryz.prog 112 [.v a.v,.v b.v] (.v (r0.v)):=⟨_,rfl,(ha.b.cross hb.b).is,vcross_q ha hb h⟩
theorem vcmp_q {a:Pt} {A:Pq} {k:Nat} {b:Pt} {B:Pq} {l:Nat} (ha:IsP k a A) (hb:IsP l b B) (h:k+l<=134217728):Con Tryz.prog 120 [.v a.v,.v b.v] (.v (.int .i64 (cmpP A B))):=by
 obtain ⟨⟨an0,au0,ad0⟩,⟨an1,au1,ad1⟩⟩:=a
 have hax:Is k ⟨an0,au0,ad0⟩ A.x:=ha.x
 have hay:Is k ⟨an1,au1,ad1⟩ A.y:=ha.y
 obtain ⟨⟨bn0,bu0,bd0⟩,⟨bn1,bu1,bd1⟩⟩:=b
 have hbx:Is l ⟨bn0,bu0,bd0⟩ B.x:=hb.x
 have hby:Is l ⟨bn1,bu1,bd1⟩ B.y:=hb.y
 obtain ⟨r0,e0⟩:∃ r,r=cmpP A B:=⟨_,rfl⟩
 rw [<-e0]
 refine Con.of ttOk mixed Tryz.func120 {} .nil 0 (by kernel_rfl) (fun P' E hP hE=>?_)
 cbv
 refine cmp_c hP hE (by assumption) (by assumption) (by omega) ?_
 intro m1 em1
 cbv
 refine fork.mk ?_ ?_
 ·intro k1
  cbv
  subst hE
  have k1:std.ic .neq m1 0=true:=k1
  simp at k1
  rw [e0,em1,cmpP,if_pos (by rw [<-em1]; exact k1)]
 ·intro k1
  cbv
  refine cmp_c hP hE (by assumption) (by assumption) (by omega) ?_
  intro m2 em2
  cbv
  subst hE
  have k1:std.ic .neq m1 0=false:=k1
  simp at k1
  rw [e0,em2,cmpP,if_neg (by rw [<-em1,k1]; simp)]
theorem vat_q {a:Pt} {A:Pq} {k:Nat} {b:Pt} {B:Pq} {l:Nat} {c:R} {x:Rat} {m:Nat} (ha:IsP k a A) (hb:IsP l b B) (hc:Is m c x) (h:2*k+l+m+1<=134217728):Con Tryz.prog 39 [.v a.v,.v b.v,.v c.v] (.v ((crP (A.at B x)).v)):=by
 obtain ⟨⟨an0,au0,ad0⟩,⟨an1,au1,ad1⟩⟩:=a
 have hax:Is k ⟨an0,au0,ad0⟩ A.x:=ha.x
 have hay:Is k ⟨an1,au1,ad1⟩ A.y:=ha.y
 obtain ⟨⟨bn0,bu0,bd0⟩,⟨bn1,bu1,bd1⟩⟩:=b
 have hbx:Is l ⟨bn0,bu0,bd0⟩ B.x:=hb.x
 have hby:Is l ⟨bn1,bu1,bd1⟩ B.y:=hb.y
 obtain ⟨cn0,cu0,cd0⟩:=c
 obtain ⟨r0,e0⟩:∃ r,r=crP (A.at B x):=⟨_,rfl⟩
 rw [<-e0]
 refine Con.of ttOk mixed Tryz.func39 { ord:=[(1,[0,1,2,4,3,5,6,7])] } .nil 0 (by kernel_rfl) (fun P' E hP hE=>?_)
 cbv
 refine vsub_c hP hE (by assumption) (by assumption) (by omega) ?_
 intro c1 ec1 hc1 hc1x hc1y
 cbv
 refine vscale_c hP hE (by assumption) (by assumption) (by omega) ?_
 intro c2 ec2 hc2 hc2x hc2y
 cbv
 refine vadd_c hP hE (by assumption) (by assumption) (by omega) ?_
 intro c3 ec3 hc3 hc3x hc3y
 cbv
 rw [e0,ec3]; rfl
theorem vcmp_c {P':Program} {E:Env} (hP:P'=Tryz.prog) (hE:E=std) {hh:List Blk} {K:AV->List Blk->Prop} {an0 an1:Bool} {au0 ad0 au1 ad1:ByteArray} {A:Pq} {k:Nat} {bn0 bn1:Bool} {bu0 bd0 bu1 bd1:ByteArray} {B:Pq} {l:Nat} (ha:IsP k ⟨⟨an0,au0,ad0⟩,⟨an1,au1,ad1⟩⟩ A) (hb:IsP l ⟨⟨bn0,bu0,bd0⟩,⟨bn1,bu1,bd1⟩⟩ B) (h:k+l<=134217728) (hk:∀ r0:Int,r0=cmpP A B->K (.v (.int .i64 r0)) hh):CallTo P' hh 120 [.v (.agg #[.bool an0,.string au0,.string ad0,.bool an1,.string au1,.string ad1]),.v (.agg #[.bool bn0,.string bu0,.string bd0,.bool bn1,.string bu1,.string bd1])] K:=by
 refine CallTo.con hP hE (vcmp_q ha hb h) ⟨rfl,rfl,trivial⟩ ?_
 have:=hk _ rfl
 simp only [outV,outW,List.append_nil]
 exact this
theorem vcmp_p {a:Pt} {A:Pq} {k:Nat} {b:Pt} {B:Pq} {l:Nat} (ha:IsP k a A) (hb:IsP l b B) (h:k+l<=134217728):∃ (r0:Int),r0=cmpP A B/\Con Tryz.prog 120 [.v a.v,.v b.v] (.v (.int .i64 r0)):=⟨_,rfl,vcmp_q ha hb h⟩
theorem vat_c {P':Program} {E:Env} (hP:P'=Tryz.prog) (hE:E=std) {hh:List Blk} {K:AV->List Blk->Prop} {an0 an1:Bool} {au0 ad0 au1 ad1:ByteArray} {A:Pq} {k:Nat} {bn0 bn1:Bool} {bu0 bd0 bu1 bd1:ByteArray} {B:Pq} {l:Nat} {cn0:Bool} {cu0 cd0:ByteArray} {x:Rat} {m:Nat} (ha:IsP k ⟨⟨an0,au0,ad0⟩,⟨an1,au1,ad1⟩⟩ A) (hb:IsP l ⟨⟨bn0,bu0,bd0⟩,⟨bn1,bu1,bd1⟩⟩ B) (hc:Is m ⟨cn0,cu0,cd0⟩ x) (h:2*k+l+m+1<=134217728) (hk:∀ r0:Pt,r0=crP (A.at B x)->IsP (2*k+l+m+2) r0 (A.at B x)->Is (2*k+l+m+2) r0.x (A.at B x).x->Is (2*k+l+m+2) r0.y (A.at B x).y->K (.v (r0.v)) hh):CallTo P' hh 39 [.v (.agg #[.bool an0,.string au0,.string ad0,.bool an1,.string au1,.string ad1]),.v (.agg #[.bool bn0,.string bu0,.string bd0,.bool bn1,.string bu1,.string bd1]),.v (.agg #[.bool cn0,.string cu0,.string cd0])] K:=by
 refine CallTo.con hP hE (vat_q ha hb hc h) ⟨rfl,rfl,rfl,trivial⟩ ?_
 have:=hk _ rfl (ha.b.at hb.b hc.b).is (ha.b.at hb.b hc.b).is.x (ha.b.at hb.b hc.b).is.y
 simp only [outV,outW,List.append_nil]
 exact this
theorem vat_p {a:Pt} {A:Pq} {k:Nat} {b:Pt} {B:Pq} {l:Nat} {c:R} {x:Rat} {m:Nat} (ha:IsP k a A) (hb:IsP l b B) (hc:Is m c x) (h:2*k+l+m+1<=134217728):∃ (r0:Pt),r0=crP (A.at B x)/\IsP (2*k+l+m+2) r0 (A.at B x)/\Con Tryz.prog 39 [.v a.v,.v b.v,.v c.v] (.v (r0.v)):=⟨_,rfl,(ha.b.at hb.b hc.b).is,vat_q ha hb hc h⟩
theorem cmpQ_eq {x y:Rat}:cmpQ x y=0 ↔ x=y:=by
 unfold cmpQ; grind
theorem cmpQ_lt {x y:Rat}:cmpQ x y < 0 ↔ x < y:=by
 unfold cmpQ; grind
theorem cmpQ_gt {x y:Rat}:0 < cmpQ x y ↔ y < x:=by
 unfold cmpQ; grind
theorem cmpQ_le {x y:Rat}:cmpQ x y<=0 ↔ x<=y:=by
 unfold cmpQ; grind
theorem cmpQ_ge {x y:Rat}:0<=cmpQ x y ↔ y<=x:=by
 unfold cmpQ; grind
theorem cmpQ_rng (x y:Rat):cmpQ x y = -1\/cmpQ x y=0\/cmpQ x y=1:=by
 unfold cmpQ; grind
theorem cmpP_rng (p q:Pq):cmpP p q = -1\/cmpP p q=0\/cmpP p q=1:=by
 have:=cmpQ_rng p.x q.x; have:=cmpQ_rng p.y q.y
 unfold cmpP; split<;>assumption
theorem cmpP_eq {p q:Pq}:cmpP p q=0 ↔ p=q:=by
 unfold cmpP
 rw [Pq.iff,<-cmpQ_eq,<-cmpQ_eq (x:=p.y)]
 split<;>simp_all
def Pq.zero:Pq:=⟨0,0⟩
def Sq.zero:Sq:=⟨Pq.zero,Pq.zero⟩
/-- The error of a segment: 12 if both ends are one point. -/
def chkQ (s:Sq):Int:=if cmpP s.a s.b=0 then 12 else 0
def ordS (s:Sq):Sq:=if 0 < cmpP s.a s.b then ⟨s.b,s.a⟩ else s
def onQ (s:Sq) (p:Pq):Bool:=btwQ s.a s.b p
def unitQ (t:Rat):Bool:=decide (0<=cmpQ t 0/\cmpQ t 1<=0)
def grP (p q:Pq):Pq:=if cmpP p q < 0 then q else p
def lsP (p q:Pq):Pq:=if cmpP p q < 0 then p else q
def wrongQ (s t:Sq):Bool:=decide (chkQ s ≠ 0\/chkQ t ≠ 0)
/-- The common points of two segments. -/
def meetQ (s t:Sq):Option Sq:=
 if cmpQ ((s.b.sub s.a).cross (t.b.sub t.a)) 0 ≠ 0 then
  if unitQ (((t.a.sub s.a).cross (t.b.sub t.a)) / ((s.b.sub s.a).cross (t.b.sub t.a)))=true/\unitQ (((t.a.sub s.a).cross (s.b.sub s.a)) / ((s.b.sub s.a).cross (t.b.sub t.a)))=true then
   some ⟨s.a.at s.b (((t.a.sub s.a).cross (t.b.sub t.a)) / ((s.b.sub s.a).cross (t.b.sub t.a))),s.a.at s.b (((t.a.sub s.a).cross (t.b.sub t.a)) / ((s.b.sub s.a).cross (t.b.sub t.a)))⟩
  else none
 else if cmpQ ((s.b.sub s.a).cross (t.a.sub s.a)) 0 ≠ 0 then none
 else if cmpP (grP (ordS s).a (ordS t).a) (lsP (ordS s).b (ordS t).b) > 0 then none
 else some ⟨grP (ordS s).a (ordS t).a,lsP (ordS s).b (ordS t).b⟩
def meetS (s t:Sq):Sq:=if wrongQ s t=true then Sq.zero else (meetQ s t).getD Sq.zero
def meetB (s t:Sq):Bool:=if wrongQ s t=true then false else (meetQ s t).isSome
def meetE (s t:Sq):Int:=if wrongQ s t=true then 12 else 0
/-- Do two segments cross? -/
def crossQ (s t:Sq):Bool := !wrongQ s t && match meetQ s t with
 | none=>false
 | some m=>decide (cmpP m.a m.b=0/\cmpP s.a m.a ≠ 0/\cmpP s.b m.a ≠ 0/\cmpP t.a m.a ≠ 0/\cmpP t.b m.a ≠ 0)
theorem Bd.zero {k:Nat} (hk:1<=k):Bd k 0:=by
 have:=Bd.int (k:=k) (n:=0) (by have:0 < 256 ^ k:=Nat.pow_pos (by decide); simpa using this) hk
 exact this
theorem BdP.zero {k:Nat} (hk:1<=k):BdP k Pq.zero:=⟨Bd.zero hk,Bd.zero hk⟩
theorem BdS.zero {k:Nat} (hk:1<=k):BdS k Sq.zero:=⟨BdP.zero hk,BdP.zero hk⟩
theorem BdP.gr {k:Nat} {p q:Pq} (hp:BdP k p) (hq:BdP k q):BdP k (grP p q):=by unfold grP; split<;>assumption
theorem BdP.ls {k:Nat} {p q:Pq} (hp:BdP k p) (hq:BdP k q):BdP k (lsP p q):=by unfold lsP; split<;>assumption
theorem BdS.ord {k:Nat} {s:Sq} (hs:BdS k s):BdS k (ordS s):=by
 unfold ordS; split
 ·exact ⟨hs.b,hs.a⟩
 ·exact hs
theorem BdS.meet {k:Nat} {s t:Sq} (hs:BdS k s) (ht:BdS k t):BdS (20*k+20) ((meetQ s t).getD Sq.zero):=by
 have hz:BdS (20*k+20) (Option.getD none Sq.zero):=BdS.zero (by omega)
 have hu:=hs.b.sub hs.a
 have hv:=ht.b.sub ht.a
 have hw:=ht.a.sub hs.a
 have hp:=(hs.a.at hs.b ((hw.cross hv).div (hu.cross hv))).mono (l:=20*k+20) (by omega)
 unfold meetQ
 split
 ·split
  ·exact ⟨hp,hp⟩
  ·exact hz
 ·split
  ·exact hz
  ·split
   ·exact hz
   ·exact ⟨(hs.ord.a.gr ht.ord.a).mono (by omega),(hs.ord.b.ls ht.ord.b).mono (by omega)⟩
theorem BdS.meetS {k:Nat} {s t:Sq} (hs:BdS k s) (ht:BdS k t):BdS (20*k+20) (meetS s t):=by
 unfold Sx.meetS; split
 ·exact BdS.zero (by omega)
 ·exact hs.meet ht
end Go.Proofs.YtkipmmiiackdaaaGreat.Sx
