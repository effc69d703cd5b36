/- Part 10 of what the statement needs: an executor of Go texts, arithmetic, and contracts of the functions that are called. -/
import Derived.Test.YtkipmmiiackdaaaGreatCi9
set_option linter.unusedSimpArgs false
set_option linter.unusedVariables false
namespace Go.Proofs.YtkipmmiiackdaaaGreat.Sx
open Env (std)
open Go.RowKit Go.Proofs.YtkipmmiiackdaaaGreatW.PrintLast Go.Proofs.YtkipmmiiackdaaaGreatW.PrintWords
/-- What is told of an argument, or a result: a value; a slice to be read (a result: a new one); a new slice of the caller's own; so much of the slice that came as argument i; several. -/
inductive T where
 | bad
 | v (x:Value)
 | ro (c:Cd) (xs:List c.α)
 | own (e:TypeId) (c:Cd) (xs:List c.α)
 | arg (i:Nat) (l:Int)
 | tup (l:List T)
mutual
def T.at (A:List Value) (base:Nat) (w:World):T->Value->Prop
 | .bad,_=>True
 | .v x,y=>y=x
 | .ro c xs,y=>c.Ok/\∃ a k,y=.slice a xs.length k/\xs.length<=k/\Reads w a c xs/\∀ d,a=some d->base<=d.block
 | .own e c xs,y=>c.Ok/\∃ a k,y=.slice a xs.length k/\w.ownsRow base e c.sz (.slice a xs.length k) xs.length (xs.flatMap c.enc)
 | .arg i l,y=>0<=l/\∃ a n k,A[i]?=some (.slice a n k)/\y=.slice a l.toNat k/\l.toNat<=n
 | .tup l,y=>∃ vs,y=.tuple vs/\T.ats A base w l vs.toList
def T.ats (A:List Value) (base:Nat) (w:World):List T->List Value->Prop
 | [],vs=>vs=[]
 | t::l,vs=>∃ u us,vs=u::us/\T.at A base w t u/\T.ats A base w l us
end
/-- Called with these arguments the function returns that, and leaves all that was there as it was. -/
structure Con (P:Program) (f:FuncId) (args:List T) (r:T):Prop where
 out:∀ (w:World) (vs:Array Value),T.ats [] 0 w args vs.toList->(callFunc f vs).run P w=.ok (.enter f vs) w /\
  Calls P f vs w fun e w'=>∃ v,e=.returned v/\r.at vs.toList w.heap.size w' v/\Below w.heap.size w w'
/-- The arguments as the executor takes them, and its heap: argument i lies at block i. -/
def inA (E:Env):Nat->List T->List AV
 | _,[]=>[]
 | i,.v x::l=>.v x::inA E (i+1) l
 | i,.ro c xs::l=>.s i (E.len c.α xs)::inA E (i+1) l
 | i,_::l=>.any::inA E (i+1) l
def inH:List T->List Blk
 | []=>[]
 | .ro c xs::l=>.row false 0 c xs::inH l
 | _::l=>.dead::inH l
mutual
def toT (E:Env) (m:Nat) (h:List Blk):AV->T
 | .v x=>.v x
 | .c x=>.v x
 | .s b l=>match h[b]? with
  | some (.row true e c xs)=>.own e c (E.tk c.α xs l)
  | some (.row false _ _ _)=>if b < m then .arg b l else .bad
  | _=>.bad
 | .tup l=>.tup (toTs E m h l)
 | _=>.bad
def toTs (E:Env) (m:Nat) (h:List Blk):List AV->List T
 | []=>[]
 | x::l=>toT E m h x::toTs E m h l
end
mutual
/-- What comes out serves for what is promised. -/
def T.le:T->T->Prop
 | .v x,.v y=>x=y
 | .v x,.own e c ys=>x=.slice none 0 0/\ys=[]/\c.Ok
 | .v x,.ro c ys=>x=.slice none 0 0/\ys=[]/\c.Ok
 | .own e c xs,.own e' c' ys=>e=e'/\Sm c xs c' ys
 | .own e c xs,.ro c' ys=>Sm c xs c' ys
 | .arg i l,.arg j k=>i=j/\l=k
 | .tup l,.tup l'=>T.les l l'
 | _,_=>False
def T.les:List T->List T->Prop
 | [],[]=>True
 | x::xs,y::ys=>T.le x y/\T.les xs ys
 | _,_=>False
end
theorem vi {a b:Int} (h:a=b):AV.v (Value.int .i64 a)=AV.v (Value.int .i64 b):=by rw [h]
theorem vj {a b:Int} (h:a=b):Value.int .i64 a=Value.int .i64 b:=by rw [h]
theorem Sm.of {c:Cd} {xs ys:List c.α} (h:xs=ys):Sm c xs c ys:=by subst h; rfl
mutual
theorem leT_at {A:List Value} {base:Nat} {w:World}:∀ {t r:T} {v:Value},T.le t r->t.at A base w v->r.at A base w v
 | .v x,.v y,_,h,hv=>by simp only [T.le] at h; subst h; exact hv
 | .v x,.own e c ys,v,h,hv=>by
  simp only [T.le] at h; obtain ⟨rfl,rfl,hc⟩:=h
  simp only [T.at] at hv ⊢; subst hv
  exact ⟨hc,none,0,rfl,World.ownsRow_nil _ _ _ _⟩
 | .v x,.ro c ys,v,h,hv=>by
  simp only [T.le] at h; obtain ⟨rfl,rfl,hc⟩:=h
  simp only [T.at] at hv ⊢; subst hv
  exact ⟨hc,none,0,rfl,Nat.le_refl _,fun i x hx=>by simp at hx,fun d hd=>by cases hd⟩
 | .own e c xs,.own e' c' ys,v,h,hv=>by
  simp only [T.le] at h; obtain ⟨rfl,hs⟩:=h
  cases hs; exact hv
 | .own e c xs,.ro c' ys,v,h,hv=>by
  simp only [T.le] at h; cases h
  simp only [T.at] at hv ⊢
  obtain ⟨hc,a,k,rfl,ho⟩:=hv
  have ho':w.ownsRow 0 e c.sz (.slice a xs.length k) xs.length (xs.flatMap c.enc):=ownsRow_base ho (fun _ _=>Nat.zero_le _)
  refine ⟨hc,a,k,rfl,(ownsRow_some ho').2,ownsRow_reads hc ho',fun d hd=>?_⟩
  subst hd
  exact (ho.lt _ rfl).1
 | .arg i l,.arg j k,v,h,hv=>by simp only [T.le] at h; obtain ⟨rfl,rfl⟩:=h; exact hv
 | .tup l,.tup l',v,h,hv=>by
  simp only [T.le] at h
  simp only [T.at] at hv ⊢
  obtain ⟨vs,h1,h2⟩:=hv
  exact ⟨vs,h1,lesT_at h h2⟩
 | .bad,_,_,h,_=>by simp [T.le] at h
 | .ro _ _,_,_,h,_=>by simp [T.le] at h
 | .v _,.bad,_,h,_=>by simp [T.le] at h
 | .v _,.arg _ _,_,h,_=>by simp [T.le] at h
 | .v _,.tup _,_,h,_=>by simp [T.le] at h
 | .own _ _ _,.bad,_,h,_=>by simp [T.le] at h
 | .own _ _ _,.v _,_,h,_=>by simp [T.le] at h
 | .own _ _ _,.arg _ _,_,h,_=>by simp [T.le] at h
 | .own _ _ _,.tup _,_,h,_=>by simp [T.le] at h
 | .arg _ _,.bad,_,h,_=>by simp [T.le] at h
 | .arg _ _,.v _,_,h,_=>by simp [T.le] at h
 | .arg _ _,.ro _ _,_,h,_=>by simp [T.le] at h
 | .arg _ _,.own _ _ _,_,h,_=>by simp [T.le] at h
 | .arg _ _,.tup _,_,h,_=>by simp [T.le] at h
 | .tup _,.bad,_,h,_=>by simp [T.le] at h
 | .tup _,.v _,_,h,_=>by simp [T.le] at h
 | .tup _,.ro _ _,_,h,_=>by simp [T.le] at h
 | .tup _,.own _ _ _,_,h,_=>by simp [T.le] at h
 | .tup _,.arg _ _,_,h,_=>by simp [T.le] at h
theorem lesT_at {A:List Value} {base:Nat} {w:World}:∀ {t r:List T} {v:List Value},T.les t r->T.ats A base w t v->T.ats A base w r v
 | [],[],_,_,h=>h
 | x::xs,y::ys,v,h,hv=>by
  simp only [T.les] at h
  simp only [T.ats] at hv ⊢
  obtain ⟨u,us,h1,h2,h3⟩:=hv
  exact ⟨u,us,h1,leT_at h.1 h2,lesT_at h.2 h3⟩
 | [],_::_,_,h,_=>by simp [T.les] at h
 | _::_,[],_,h,_=>by simp [T.les] at h
end
section
variable {P:Program} {β:Nat->Loc}
/-- Where the arguments lie. -/
def argL (args:List T) (vs:List Value) (i:Nat):Loc:=
 match args[i]?,vs[i]? with
 | some (.ro c xs),some (.slice a n k)=>⟨0,a,k,c.sz,xs.length⟩
 | _,_=>default
theorem ats_get {A:List Value} {base:Nat} {w:World}:∀ {l:List T} {vs:List Value},T.ats A base w l vs->vs.length=l.length/\∀ (i:Nat) (t:T),l[i]?=some t->∃ v,vs[i]?=some v/\T.at A base w t v
 | [],vs,h=>by simp only [T.ats] at h; subst h; exact ⟨rfl,fun i t h=>by simp at h⟩
 | t::l,vs,h=>by
  simp only [T.ats] at h
  obtain ⟨u,us,rfl,h1,h2⟩:=h
  obtain ⟨h3,h4⟩:=ats_get h2
  refine ⟨by simp [h3],fun i x hx=>?_⟩
  cases i with
  | zero=>simp at hx; subst hx; exact ⟨u,rfl,h1⟩
  | succ i=>simpa using h4 i x (by simpa using hx)
theorem inH_get:∀ {l:List T} {i:Nat} {b:Blk},(inH l)[i]?=some b->∃ t,l[i]?=some t/\(b=.dead\/∃ c xs,t=.ro c xs/\b=.row false 0 c xs)
 | [],i,b,h=>by simp [inH] at h
 | t::l,i,b,h=>by
  cases i with
  | zero=>
   refine ⟨t,rfl,?_⟩
   cases t<;>simp [inH] at h<;>first | exact .inl h.symm | (subst h; exact .inr ⟨_,_,rfl,rfl⟩)
  | succ i=>
   have h':(inH l)[i]?=some b:=by cases t<;>simpa [inH] using h
   simpa using inH_get h'
theorem inH_length:∀ l:List T,(inH l).length=l.length
 | []=>rfl
 | t::l=>by cases t<;>simp [inH,inH_length l]
theorem inA_rel {args:List T} {vs:List Value} {w:World} (h:T.ats [] 0 w args vs):AVRs (argL args vs) (inA std 0 args) vs/\AV.oks args.length (inA std 0 args):=by
 obtain ⟨hl,hg⟩:=ats_get h
 have key:∀ (l:List T) (us:List Value) (i:Nat),us.length=l.length->(∀ j t,l[j]?=some t->args[i+j]?=some t)->(∀ j u,us[j]?=some u->vs[i+j]?=some u)->i+l.length<=args.length->AVRs (argL args vs) (inA std i l) us/\AV.oks args.length (inA std i l):=by
  intro l
  induction l with
  | nil=>intro us i hl _ _ _; cases us with
   | nil=>simp only [inA,AVRs,AV.oks]; exact ⟨trivial,trivial⟩
   | cons _ _=>simp at hl
  | cons t l ih=>
   intro us i hl h1 h2 h3
   cases us with
   | nil=>simp at hl
   | cons u us=>
    simp only [List.length_cons] at hl h3
    obtain ⟨q1,q2⟩:=ih us (i+1) (by omega) (fun j t ht=>by have:=h1 (j+1) t (by simpa using ht); rw [<-this]; congr 1; omega) (fun j u hu=>by have:=h2 (j+1) u (by simpa using hu); rw [<-this]; congr 1; omega) (by omega)
    have ha:args[i]?=some t:=by simpa using h1 0 t rfl
    have hv:vs[i]?=some u:=by simpa using h2 0 u rfl
    obtain ⟨u',hu',hat⟩:=hg i t ha
    rw [hv] at hu'; injection hu' with hu'; subst hu'
    cases t with
    | v x=>
     simp only [T.at] at hat; subst hat
     simp only [inA,AV.oks,AV.ok]
     exact ⟨AVRs.cons avr_v q1,trivial,q2⟩
    | ro c xs=>
     simp only [T.at] at hat
     obtain ⟨hc,a,k,rfl,hk,hr,_⟩:=hat
     simp only [inA,AV.oks,AV.ok]
     have hL:argL args vs i=⟨0,a,k,c.sz,xs.length⟩:=by unfold argL; rw [ha,hv]
     exact ⟨AVRs.cons (avr_s (by simp [std]) (by rw [hL]; simp [std]) (by rw [hL]; simp [std])) q1,by omega,q2⟩
    | _=>simp only [inA,AV.oks,AV.ok]; exact ⟨AVRs.cons (by simp only [AVR]) q1,trivial,q2⟩
 exact key args vs 0 hl (fun j t h=>by simpa using h) (fun j u h=>by simpa using h) (by omega)
theorem inH_rel {args:List T} {vs:List Value} {w:World} (h:T.ats [] 0 w args vs):RelW { toWorld:=w,M:=[] } (argL args vs) (inH args) w:=by
 obtain ⟨hl,hg⟩:=ats_get h
 have noocc:∀ (i:Nat) b g,(inH args)[i]?=some b->b.occ (argL args vs i) ≠ some g:=by
  intro i b g hi ho
  obtain ⟨t,ht,hb | ⟨c,xs,_,hb⟩⟩:=inH_get hi
  ·subst hb; simp [Blk.occ] at ho
  ·subst hb; simp [Blk.occ] at ho
 refine ⟨Below.refl _ _,fun i b hi=>?_,fun i b g hi ho=>absurd ho (noocc i b g hi),fun i j bi bj g hi hj h1 h2=>absurd h1 (noocc i bi g hi),fun i j e c xs bj g hi hx hj h2=>absurd h2 (noocc j bj g hj),fun b hb=>?_,fun g hg=>(by cases hg),List.nodup_nil⟩
 ·obtain ⟨t,ht,hb | ⟨c,xs,he,hb⟩⟩:=inH_get hi
  ·subst hb; trivial
  ·subst hb; subst he
   obtain ⟨v,hv,hat⟩:=hg i _ ht
   simp only [T.at] at hat
   obtain ⟨hc,a,k,rfl,hk,hr,_⟩:=hat
   have hL:argL args vs i=⟨0,a,k,c.sz,xs.length⟩:=by unfold argL; rw [ht,hv]
   rw [hL]
   exact ⟨hc,rfl,rfl,hk,hr⟩
 ·obtain ⟨i,hi⟩:=List.getElem?_of_mem hb
  obtain ⟨t,ht,hb | ⟨c,xs,he,hb⟩⟩:=inH_get hi
  ·subst hb; trivial
  ·subst hb; trivial
mutual
theorem toT_at {args:List T} {vs:List Value} {w0:Base} {w:World} {h:List Blk} (ha:T.ats [] 0 w0 args vs) (hw:RelW w0 β h w) (hx:∀ i,i < args.length->β i=argL args vs i):∀ {x:AV} {v:Value},AVR β x v->(toT std args.length h x).at vs w0.heap.size w v
 | .v y,v,hr=>by simp only [AVR] at hr; simp only [toT,T.at]; exact hr
 | .c y,v,hr=>by simp only [AVR] at hr; simp only [toT,T.at]; exact hr
 | .s b l,v,hr=>by
  simp only [AVR] at hr
  obtain ⟨h1,h2,rfl⟩:=hr
  simp only [toT]
  split
  ·rename_i e c xs hb
   obtain ⟨hc,hz,hn,ho⟩:=hw.blk b _ hb
   rw [hn] at ho
   have hl:l.toNat<=xs.length:=by omega
   have hlt:(std.tk c.α xs l).length=l.toNat:=by simp only [std,List.length_take]; omega
   simp only [T.at]
   refine ⟨hc,(β b).a,(β b).cap,by rw [hlt],?_⟩
   rw [hlt]
   exact ownsRow_base (ownsRow_prefix hc ho hl) (fun d hd=>hw.mine b _ d.block hb (by simp [Blk.occ,hd]))
  ·rename_i e c xs hb
   split
   ·rename_i hlt
    simp only [T.at]
    refine ⟨h1,?_⟩
    rw [hx b hlt] at h2 ⊢
    unfold argL at h2 ⊢
    split
    ·rename_i c' xs' a n k h3 h4
     rw [h3,h4] at h2
     simp only at h2
     obtain ⟨_,hg⟩:=ats_get ha
     obtain ⟨u,hu,hat⟩:=hg b _ h3
     rw [h4] at hu; injection hu with hu; subst hu
     simp only [T.at] at hat
     obtain ⟨_,a',k',he,_⟩:=hat
     injection he with he1 he2 he3
     exact ⟨a,n,k,h4,rfl,by omega⟩
    ·rename_i hne
     exfalso
     have hrb:=hw.hb b _ _ _ _ hb
     rw [hx b hlt] at hrb
     have hz:=hrb.z
     have hp:=hrb.ok.pos
     unfold argL at hz
     split at hz
     ·rename_i c' xs' a n k h3 h4; exact hne _ _ _ _ _ h3 h4
     ·simp only [default] at hz; omega
   ·simp only [T.at]
  ·simp only [T.at]
 | .tup l,v,hr=>by
  simp only [AVR] at hr
  obtain ⟨us,rfl,hr⟩:=hr
  simp only [toT,T.at]
  exact ⟨us,rfl,toTs_at ha hw hx hr⟩
 | .any,_,_=>by simp only [toT,T.at]
 | .p _ _,_,_=>by simp only [toT,T.at]
 | .q _ _ _ _,_,_=>by simp only [toT,T.at]
 | .e _ _ _,_,_=>by simp only [toT,T.at]
 | .w _ _ _,_,_=>by simp only [toT,T.at]
 | .arr _,_,_=>by simp only [toT,T.at]
 | .fn _ _ _,_,_=>by simp only [toT,T.at]
 | .agg _,_,_=>by simp only [toT,T.at]
 | .yl _,_,_=>by simp only [toT,T.at]
theorem toTs_at {args:List T} {vs:List Value} {w0:Base} {w:World} {h:List Blk} (ha:T.ats [] 0 w0 args vs) (hw:RelW w0 β h w) (hx:∀ i,i < args.length->β i=argL args vs i):∀ {l:List AV} {us:List Value},AVRs β l us->T.ats vs w0.heap.size w (toTs std args.length h l) us
 | [],us,hr=>by simp only [AVRs] at hr; simp only [toTs,T.ats]; exact hr
 | x::l,us,hr=>by
  simp only [AVRs] at hr
  obtain ⟨u,r,rfl,h1,h2⟩:=hr
  simp only [toTs,T.ats]
  exact ⟨u,r,rfl,toT_at ha hw hx h1,toTs_at ha hw hx h2⟩
end
/-- A contract out of a run of the text. -/
theorem Con.of {tt:Tab} (hT:TabOk P tt) (hm:P.follows .mixedOrders=true) {f:FuncId} {fn:Func} (hf:P.funcs[f]?=some fn) (g:Cfg) {inl:List (FuncId × Func × Cfg)} (hi:InlOk P inl) (d:Nat) {args:List T} {r:T} (hok:fnOk g.ord fn=true)
  (h:∀ P' E,P'=P->E=std->runFn P' E tt (calls P' E tt inl d) g fn (inH args) (inA E 0 args) (fun x h'=>T.le (toT E args.length h' x) r)) (hrd:g.rd=false:=by rfl):Con P f args r:=by
 refine ⟨fun w vs ha=>?_⟩
 obtain ⟨h1,h2⟩:=inA_rel ha
 obtain ⟨h3,h4⟩:=(runFn_sound hT hm (calls_ok hT hm hi d) hf hrd hok (h _ _ rfl rfl)).out { toWorld:=w,M:=[] } _ w vs (inH_rel ha) (by rw [inH_length]; exact h2) h1
 refine ⟨h3,h4.mono fun e w' hh=>?_⟩
 obtain ⟨v,x,h',β',rfl,hr,hk,hw,hx,hle⟩:=hh
 rw [inH_length] at hx
 exact ⟨v,rfl,leT_at hle (toT_at ha hw hx.2 hr),hw.below⟩
end
end Go.Proofs.YtkipmmiiackdaaaGreat.Sx
