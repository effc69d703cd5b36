/- Part 11 of what the statement needs: an executor of Go texts, arithmetic, and contracts of the functions that are called. -/
import Derived.Test.YtkipmmiiackdaaaGreatCi10
import Derived.Test.YtkipmmiiackdaaaGreatRows
import Derived.WalkKit
import Derived.ProofKit
import Derived.OpenShut
import Derived.ShutString
import Derived.ChangeOld
import Derived.Below
import Derived.SizedLaws
import Derived.Carry
import Derived.Deep.Slices
set_option linter.unusedSimpArgs false
set_option linter.unusedVariables false
set_option maxRecDepth 100000
namespace Go.Proofs.YtkipmmiiackdaaaGreat.Sx
open Env (std)
open Go.RowKit Go.Proofs.YtkipmmiiackdaaaGreatW.PrintLast Go.Proofs.YtkipmmiiackdaaaGreatW.PrintWords
/-- An argument is what the contract wants. -/
def fit (E:Env) (h:List Blk):AV->T->Prop
 | .v x,.v y=>x=y
 | .c x,.v y=>x=y
 | .c x,.ro c ys=>x=.slice none 0 0/\ys=[]/\c.Ok
 | .v x,.ro c ys=>x=.slice none 0 0/\ys=[]/\c.Ok
 | .s b l,.ro c ys=>match h[b]? with
  | some (.row _ _ c' xs)=>Sm c' (E.tk c'.α xs l) c ys
  | _=>False
 | .w b o l,.ro c ys=>match h[b]? with
  | some (.row _ _ c' xs)=>Sm c' (E.wnd c'.α xs o l) c ys
  | _=>False
 | .q b o l k,.ro c ys=>match h[b]? with
  | some (.cells cs _)=>c.Ok/\plain ((cs.drop o).take (l*c.sz))=some (ys.flatMap c.enc)/\ys.length=l/\l<=k
  | _=>False
 | .fn g fs cs,.v y=>∃ a b,plain fs=some a/\plain cs=some b/\y=.func (.func g) a.toArray b.toArray
 | _,_=>False
def fits (E:Env) (h:List Blk):List AV->List T->Prop
 | [],[]=>True
 | x::xs,t::ts=>fit E h x t/\fits E h xs ts
 | _,_=>False
def argV (args:List AV) (i:Nat) (l:Int):AV:=
 match args[i]? with
 | some (.s b _)=>.s b l
 | _=>.any
/-- What comes back, and the blocks that come with it. -/
def outW (E:Env) (args:List AV) (n:Nat):T->AV × List Blk
 | .v x=>(.v x,[])
 | .ro c xs=>(.s n (E.len c.α xs),[.row false 0 c xs])
 | .own _ c xs=>(.s n (E.len c.α xs),[.row false 0 c xs])
 | .arg i l=>(argV args i l,[])
 | _=>(.any,[])
def outWs (E:Env) (args:List AV):Nat->List T->List AV × List Blk
 | _,[]=>([],[])
 | n,t::l=>((outW E args n t).1::(outWs E args (n+(outW E args n t).2.length) l).1,(outW E args n t).2++(outWs E args (n+(outW E args n t).2.length) l).2)
def vsOnly:List T->Option (List Value)
 | []=>some []
 | .v x::l=>match vsOnly l with
  | some us=>some (x::us)
  | none=>none
 | _=>none
/-- Several results: a first row is owned, if only values follow. -/
def outV (E:Env) (args:List AV) (n:Nat):T->AV × List Blk
 | .own e c xs=>(.s n (E.len c.α xs),[.row true e c xs])
 | .tup (.own e c xs::l)=>match vsOnly l with
  | some us=>(.tup (.s n (E.len c.α xs)::us.map .v),[.row true e c xs])
  | none=>(.tup (outWs E args n (.own e c xs::l)).1,(outWs E args n (.own e c xs::l)).2)
 | .tup l=>(.tup (outWs E args n l).1,(outWs E args n l).2)
 | t=>outW E args n t
section
variable {P:Program} {β:Nat->Loc} {ds:List Deferred}
theorem wnd_eq {α:Type} (xs:List α) (o l:Int):std.wnd α xs o l=(xs.drop o.toNat).take l.toNat:=rfl
theorem tk_eq {α:Type} (xs:List α) (l:Int):std.tk α xs l=xs.take l.toNat:=rfl
theorem fit_at {w0:Base} {w:World} {h:List Blk} (hw:RelW w0 β h w):∀ {x:AV} {t:T} {v:Value},AVR β x v->fit std h x t->t.at [] 0 w v:=by
 intro x t v hr hf
 cases x with
 | v y=>cases t with
  | v z=>simp only [fit] at hf; subst hf; simp only [AVR] at hr; simp only [T.at]; exact hr
  | ro c ys=>
   simp only [fit] at hf; obtain ⟨rfl,rfl,hc⟩:=hf
   simp only [AVR] at hr; subst hr
   simp only [T.at]
   exact ⟨hc,none,0,rfl,Nat.le_refl _,fun i x hx=>by simp at hx,fun d hd=>by cases hd⟩
  | _=>simp [fit] at hf
 | c y=>cases t with
  | v z=>simp only [fit] at hf; subst hf; simp only [AVR] at hr; simp only [T.at]; exact hr
  | ro c ys=>
   simp only [fit] at hf; obtain ⟨rfl,rfl,hc⟩:=hf
   simp only [AVR] at hr; subst hr
   simp only [T.at]
   exact ⟨hc,none,0,rfl,Nat.le_refl _,fun i x hx=>by simp at hx,fun d hd=>by cases hd⟩
  | _=>simp [fit] at hf
 | s b l=>cases t with
  | ro c ys=>
   simp only [fit] at hf
   split at hf
   ·rename_i ow e c' xs hb
    cases hf
    have hrb:=hw.hb b _ _ _ _ hb
    have hrd:=hw.reads hb
    simp only [AVR] at hr
    obtain ⟨h1,h2,rfl⟩:=hr
    have hn:=hrb.n
    have hcap:=hrb.cap
    have hlt:(std.tk c.α xs l).length=l.toNat:=by simp only [tk_eq,List.length_take]; omega
    simp only [T.at]
    refine ⟨hrb.ok,(β b).a,(β b).cap,by rw [hlt],by rw [hlt]; omega,fun i x hx=>?_,fun _ _=>Nat.zero_le _⟩
    simp only [tk_eq,List.getElem?_take] at hx
    split at hx
    ·exact hrd i x hx
    ·cases hx
   ·exact hf.elim
  | _=>simp [fit] at hf
 | w b o l=>cases t with
  | ro c ys=>
   simp only [fit] at hf
   split at hf
   ·rename_i ow e c' xs hb
    cases hf
    have hrb:=hw.hb b _ _ _ _ hb
    have hrd:=hw.reads hb
    simp only [AVR] at hr
    obtain ⟨h1,h2,h3,d,k,rfl,h5,h6⟩:=hr
    have hn:=hrb.n
    have hlt:(std.wnd c.α xs o l).length=l.toNat:=by simp only [wnd_eq,List.length_take,List.length_drop]; omega
    simp only [T.at]
    refine ⟨hrb.ok,d,k,by rw [hlt],by rw [hlt]; omega,fun i x hx=>?_,fun _ _=>Nat.zero_le _⟩
    simp only [wnd_eq,List.getElem?_take,List.getElem?_drop] at hx
    split at hx
    ·obtain ⟨b',hb',hcl⟩:=hrd _ x hx
     rw [h6 (by omega),hb',hrb.z]
     refine ⟨_,rfl,fun j u hu=>?_⟩
     rw [add_add,<-hcl j u hu,Nat.add_mul,Nat.add_assoc]
    ·cases hx
   ·exact hf.elim
  | _=>simp [fit] at hf
 | q b o l k=>cases t with
  | ro c ys=>
   simp only [fit] at hf
   split at hf
   ·rename_i cs ty hb
    obtain ⟨hc,hp,hl,hk⟩:=hf
    simp only [AVR] at hr; subst hr
    obtain ⟨vs,hg,hvs⟩:=hw.blk b _ hb
    have hpr:=plain_rel hp ((hvs.drop o).take (l*c.sz))
    simp only [T.at]
    refine ⟨hc,_,k,by rw [hl],by rw [hl]; exact hk,fun i x hx=>⟨_,rfl,fun j u hu=>?_⟩,fun _ _=>Nat.zero_le _⟩
    have:=flat_get hc hx hu
    rw [<-hpr,List.getElem?_take] at this
    split at this
    ·rw [List.getElem?_drop,Array.getElem?_toList] at this
     rw [add_own,cell_own hg]; exact this
    ·cases this
   ·exact hf.elim
  | _=>simp [fit] at hf
 | fn g fs cs=>cases t with
  | v y=>
   simp only [fit] at hf
   obtain ⟨a,b,h1,h2,rfl⟩:=hf
   simp only [AVR] at hr
   obtain ⟨fs',cs',rfl,h3,h4⟩:=hr
   have e1:=plain_rel h1 h3
   have e2:=plain_rel h2 h4
   simp only [T.at]
   rw [<-e1,<-e2]
  | _=>simp [fit] at hf
 | _=>cases t<;>simp [fit] at hf
theorem fits_at {w0:Base} {w:World} {h:List Blk} (hw:RelW w0 β h w):∀ {xs:List AV} {ts:List T} {vs:List Value},AVRs β xs vs->fits std h xs ts->T.ats [] 0 w ts vs
 | [],[],vs,hr,_=>by simp only [AVRs] at hr; simp only [T.ats]; exact hr
 | x::xs,t::ts,vs,hr,hf=>by
  simp only [AVRs] at hr
  obtain ⟨u,us,rfl,h1,h2⟩:=hr
  simp only [fits] at hf
  simp only [T.ats]
  exact ⟨u,us,rfl,fit_at hw h1 hf.1,fits_at hw h2 hf.2⟩
 | [],_::_,_,_,hf=>by simp [fits] at hf
 | _::_,[],_,_,hf=>by simp [fits] at hf
/-- All that is known lies below a number. -/
structure Low (β:Nat->Loc) (h:List Blk) (base:Nat):Prop where
 occ:∀ (i:Nat) b g,h[i]?=some b->b.occ (β i)=some g->g < base
 ro:∀ (i:Nat) e c xs d,h[i]?=some (.row false e c xs)->xs ≠ []->(β i).a=some d->d.block < base
theorem RelW.low {w0:Base} {w:World} {h:List Blk} (hw:RelW w0 β h w):Low β h w.heap.size:=
 ⟨fun i b g hi ho=>hw.occ_lt hi ho,fun i e c xs d hi hx hd=>hw.ro_lt hi hx hd⟩
/-- A row to be read comes in. -/
theorem RelW.addRo {w0:Base} {w:World} {h:List Blk} (hw:RelW w0 β h w) {c:Cd} (hc:c.Ok) {xs:List c.α} {a:Option Addr} {k base:Nat} (hocc:∀ (i:Nat) b g,h[i]?=some b->b.occ (β i)=some g->g < base) (hk:xs.length<=k) (hr:Reads w a c xs) (hb:∀ d,a=some d->base<=d.block) :
  RelW w0 (grow β h.length ⟨0,a,k,c.sz,xs.length⟩) (h++[.row false 0 c xs]) w:=by
 refine hw.add ⟨hc,rfl,rfl,hk,hr⟩ trivial (fun g hg=>by simp [Blk.occ] at hg) (fun e c' xs' he hx d hd i b hi ho=>?_)
 have h1:=hocc i b _ hi ho
 have h2:=hb d hd
 omega
theorem argV_rel {args:List AV} {vs:List Value} (ha:AVRs β args vs) {base:Nat} {w:World} {i:Nat} {l:Int} {v:Value} (h:(T.arg i l).at vs base w v) {n:Nat} (hk:AV.oks n args):AVR β (argV args i l) v/\(argV args i l).ok n:=by
 simp only [T.at] at h
 obtain ⟨h0,a,m,k,h1,rfl,h2⟩:=h
 unfold argV
 split
 ·rename_i b l' hb
  obtain ⟨u,hu,hr⟩:=AVRs_get ha hb
  rw [h1] at hu; injection hu with hu; subst hu
  simp only [AVR] at hr
  obtain ⟨q1,q2,q3⟩:=hr
  injection q3 with q3 q4 q5
  subst q3; subst q5
  refine ⟨avr_s h0 (by omega) rfl,?_⟩
  have:=oks_mem hk _ (List.mem_of_getElem? hb)
  simpa only [AV.ok] using this
 ·simp only [AVR,AV.ok]; exact ⟨trivial,trivial⟩
theorem outW_rel {w0:Base} {w:World} {h:List Blk} {args:List AV} {vs:List Value} {base:Nat} (hw:RelW w0 β h w) (ha:AVRs β args vs) (hk:AV.oks h.length args) (hocc:∀ (i:Nat) b g,h[i]?=some b->b.occ (β i)=some g->g < base) {t:T} {v:Value} (ht:t.at vs base w v) :
  ∃ β',AVR β' (outW std args h.length t).1 v/\(outW std args h.length t).1.ok (h.length+(outW std args h.length t).2.length)/\RelW w0 β' (h++(outW std args h.length t).2) w/\(∀ i,i < h.length->β' i=β i) /\
   (∀ (i:Nat) b g,(h++(outW std args h.length t).2)[i]?=some b->b.occ (β' i)=some g->g < base):=by
 have row:∀ {c:Cd} {xs:List c.α} {a:Option Addr} {k:Nat},c.Ok->xs.length<=k->Reads w a c xs->(∀ d,a=some d->base<=d.block) ->
   ∃ β',AVR β' (.s h.length (std.len c.α xs)) (.slice a xs.length k)/\(AV.s h.length (std.len c.α xs)).ok (h.length+1)/\RelW w0 β' (h++[.row false 0 c xs]) w/\(∀ i,i < h.length->β' i=β i)/\(∀ (i:Nat) b g,(h++[.row false 0 c xs])[i]?=some b->b.occ (β' i)=some g->g < base):=by
  intro c xs a k hc hk hr hb
  refine ⟨_,?_,by simp only [AV.ok]; omega,hw.addRo hc hocc hk hr hb,fun i hi=>grow_lt hi,fun i b g hi ho=>?_⟩
  ·exact avr_s (by simp [std]) (by rw [grow_at]; simp [std]) (by rw [grow_at]; simp [std])
  ·rw [List.getElem?_append] at hi
   split at hi
   ·rename_i hlt; rw [grow_lt hlt] at ho; exact hocc i b g hi ho
   ·have:=(List.getElem?_eq_some_iff.1 hi).1
    simp at this
    rw [this] at hi
    simp at hi
    subst hi; simp [Blk.occ] at ho
 cases t with
 | v x=>simp only [T.at] at ht; subst ht; exact ⟨β,avr_v,by simp only [outW,AV.ok],by simpa [outW] using hw,fun _ _=>rfl,by simpa [outW] using hocc⟩
 | bad=>exact ⟨β,by simp only [outW,AVR],by simp only [outW,AV.ok],by simpa [outW] using hw,fun _ _=>rfl,by simpa [outW] using hocc⟩
 | tup l=>exact ⟨β,by simp only [outW,AVR],by simp only [outW,AV.ok],by simpa [outW] using hw,fun _ _=>rfl,by simpa [outW] using hocc⟩
 | arg i l=>
  obtain ⟨h1,h2⟩:=argV_rel ha ht hk
  exact ⟨β,h1,h2,by simpa [outW] using hw,fun _ _=>rfl,by simpa [outW] using hocc⟩
 | ro c xs=>
  simp only [T.at] at ht
  obtain ⟨hc,a,k,rfl,hk',hr,hb⟩:=ht
  exact row hc hk' hr hb
 | own e c xs=>
  simp only [T.at] at ht
  obtain ⟨hc,a,k,rfl,ho⟩:=ht
  have ho':w.ownsRow 0 e c.sz (.slice a xs.length k) xs.length (xs.flatMap c.enc):=ownsRow_base ho (fun _ _=>Nat.zero_le _)
  exact row hc (ownsRow_some ho').2 (ownsRow_reads hc ho') (fun d hd=>by subst hd; exact (ho.lt _ rfl).1)
theorem outWs_rel {w0:Base} {w:World} {args:List AV} {vs:List Value} {base:Nat}:∀ {ts:List T} {us:List Value} {h:List Blk} {β:Nat->Loc},RelW w0 β h w->AVRs β args vs->AV.oks h.length args->(∀ (i:Nat) b g,h[i]?=some b->b.occ (β i)=some g->g < base)->T.ats vs base w ts us ->
  ∃ β',AVRs β' (outWs std args h.length ts).1 us/\AV.oks (h.length+(outWs std args h.length ts).2.length) (outWs std args h.length ts).1/\RelW w0 β' (h++(outWs std args h.length ts).2) w/\(∀ i,i < h.length->β' i=β i)
 | [],us,h,β,hw,_,_,_,ht=>by
  simp only [T.ats] at ht; subst ht
  exact ⟨β,by simp only [outWs,AVRs],by simp only [outWs,AV.oks],by simpa [outWs] using hw,fun _ _=>rfl⟩
 | t::ts,us,h,β,hw,ha,hk,hocc,ht=>by
  simp only [T.ats] at ht
  obtain ⟨u,r,rfl,h1,h2⟩:=ht
  obtain ⟨β1,q1,q2,q3,q4,q5⟩:=outW_rel hw ha hk hocc h1
  have hl:(h++(outW std args h.length t).2).length=h.length+(outW std args h.length t).2.length:=by simp
  obtain ⟨β2,p1,p2,p3,p4⟩:=outWs_rel (h:=h++(outW std args h.length t).2) q3 (AVRs_congr hk q4 ha) (AV.oks_mono hk (by rw [hl]; omega)) q5 h2
  rw [hl] at p1 p2 p3 p4
  refine ⟨β2,?_,?_,?_,fun i hi=>by rw [p4 i (by omega),q4 i hi]⟩
  ·simp only [outWs]
   exact AVRs.cons (AVR_congr q2 (fun i hi=>p4 i hi) q1) p1
  ·simp only [outWs,AV.oks,List.length_append]
   exact ⟨AV.ok_mono q2 (by omega),AV.oks_mono p2 (by omega)⟩
  ·simp only [outWs]
   rw [<-List.append_assoc]; exact p3
theorem vsOnly_at {A:List Value} {base:Nat} {w:World}:∀ {l:List T} {us ys:List Value},vsOnly l=some us->T.ats A base w l ys->ys=us
 | [],us,ys,h,ha=>by
  simp only [vsOnly,Option.some.injEq] at h
  simp only [T.ats] at ha
  rw [ha,h]
 | .v x::l,us,ys,h,ha=>by
  simp only [vsOnly] at h
  cases hl:vsOnly l with
  | none=>rw [hl] at h; cases h
  | some ws=>
   rw [hl] at h
   simp only [Option.some.injEq] at h
   simp only [T.ats,T.at] at ha
   obtain ⟨u,r,rfl,rfl,h2⟩:=ha
   rw [<-h,vsOnly_at hl h2]
 | .bad::l,us,ys,h,ha=>by simp [vsOnly] at h
 | .ro _ _::l,us,ys,h,ha=>by simp [vsOnly] at h
 | .own _ _ _::l,us,ys,h,ha=>by simp [vsOnly] at h
 | .arg _ _::l,us,ys,h,ha=>by simp [vsOnly] at h
 | .tup _::l,us,ys,h,ha=>by simp [vsOnly] at h
theorem AVRs_vs:∀ us:List Value,AVRs β (us.map .v) us
 | []=>by simp only [List.map,AVRs]
 | x::us=>by
  simp only [List.map]
  exact AVRs.cons avr_v (AVRs_vs us)
/-- A call answered by a contract. -/
theorem CallTo.con {P':Program} {E:Env} (hP:P'=P) (hE:E=std) {f:FuncId} {h:List Blk} {args:List AV} {ts:List T} {r:T} {K:AV->List Blk->Prop} (hc:Con P f ts r) (hf:fits E h args ts) (hk:K (outV E args h.length r).1 (h++(outV E args h.length r).2)):CallTo P' h f args K:=by
 subst hP; subst hE
 refine ⟨fun w0 β w vs hw hok hr=>?_⟩
 obtain ⟨h1,h2⟩:=hc.out w vs (fits_at hw hr hf)
 refine ⟨h1,h2.mono fun e w' hh=>?_⟩
 obtain ⟨v,rfl,hv,hb⟩:=hh
 have hw':=hw.step hb
 have hlow:=hw.low
 have hle:=hw.below.size
 have done_:∀ {x:AV} {bs:List Blk} {β':Nat->Loc},AVR β' x v->x.ok (h.length+bs.length)->RelW w0 β' (h++bs) w'->(∀ i,i < h.length->β' i=β i)->K x (h++bs) ->
   ∃ v' x h' β',Ending.returned v=.returned v'/\AVR β' x v'/\x.ok h'.length/\RelW w0 β' h' w'/\Ext h.length β h' β'/\K x h':=by
  intro x bs β' q1 q2 q3 q4 q5
  exact ⟨v,x,h++bs,β',rfl,q1,by rw [List.length_append]; exact q2,q3,⟨by simp,q4⟩,q5⟩
 cases r with
 | own e c xs=>
  simp only [T.at] at hv
  obtain ⟨hcok,a,k,rfl,ho⟩:=hv
  refine done_ (x:=.s h.length (std.len c.α xs)) (bs:=[.row true e c xs]) (β':=grow β h.length ⟨0,a,k,c.sz,xs.length⟩) ?_ ?_ (hw.newRow hcok rfl rfl ho hb) (fun i hi=>grow_lt hi) hk
  ·exact avr_s (by simp [std]) (by rw [grow_at]; simp [std]) (by rw [grow_at]; simp [std])
  ·simp only [AV.ok,List.length_cons,List.length_nil]; omega
 | tup l=>
  simp only [T.at] at hv
  obtain ⟨us,rfl,hv⟩:=hv
  have old:K (.tup (outWs std args h.length l).1) (h++(outWs std args h.length l).2)->∃ v' x h' β',Ending.returned (Value.tuple us)=.returned v'/\AVR β' x v'/\x.ok h'.length/\RelW w0 β' h' w'/\Ext h.length β h' β'/\K x h':=by
   intro hk
   obtain ⟨β',q1,q2,q3,q4⟩:=outWs_rel (ts:=l) hw' hr hok hlow.occ hv
   exact done_ (x:=.tup (outWs std args h.length l).1) (bs:=(outWs std args h.length l).2) (by simp only [AVR]; exact ⟨us,rfl,q1⟩) (by simp only [AV.ok]; exact q2) q3 q4 hk
  cases l with
  | nil=>exact old hk
  | cons t l=>
   cases t with
   | own e c xs=>
    cases hvs:vsOnly l with
    | none=>simp only [outV,hvs] at hk; exact old hk
    | some ws=>
     simp only [outV,hvs] at hk
     simp only [T.ats,T.at] at hv
     obtain ⟨u,r,hus,⟨hcok,a,k,rfl,ho⟩,h2⟩:=hv
     have h3:=vsOnly_at hvs h2
     subst h3
     refine done_ (x:=.tup (.s h.length (std.len c.α xs)::r.map .v)) (bs:=[.row true e c xs]) (β':=grow β h.length ⟨0,a,k,c.sz,xs.length⟩) ?_ ?_ (hw.newRow hcok rfl rfl ho hb) (fun i hi=>grow_lt hi) hk
     ·simp only [AVR]
      refine ⟨us,rfl,?_⟩
      rw [hus]
      exact AVRs.cons (avr_s (by simp [std]) (by rw [grow_at]; simp [std]) (by rw [grow_at]; simp [std])) (AVRs_vs r)
     ·simp only [AV.ok,AV.oks,List.length_cons,List.length_nil]
      exact ⟨by omega,oks_vs r⟩
   | v x=>exact old hk
   | bad=>exact old hk
   | ro c xs=>exact old hk
   | arg i l'=>exact old hk
   | tup l'=>exact old hk
 | v x=>
  obtain ⟨β',q1,q2,q3,q4,_⟩:=outW_rel hw' hr hok hlow.occ hv
  exact done_ q1 q2 q3 q4 hk
 | ro c xs=>
  obtain ⟨β',q1,q2,q3,q4,_⟩:=outW_rel hw' hr hok hlow.occ hv
  exact done_ q1 q2 q3 q4 hk
 | arg i l=>
  obtain ⟨β',q1,q2,q3,q4,_⟩:=outW_rel hw' hr hok hlow.occ hv
  exact done_ q1 q2 q3 q4 hk
 | bad=>
  obtain ⟨β',q1,q2,q3,q4,_⟩:=outW_rel hw' hr hok hlow.occ hv
  exact done_ q1 q2 q3 q4 hk
/-- A literal slice is taken for a row, before a call that hands it back. -/
theorem CallTo.lit {f:FuncId} {h:List Blk} {args:List AV} {i b l:Nat} {cs:List AV} {ty:TypeId} {c:Cd} {ys:List c.α} {K:AV->List Blk->Prop} (hi:args[i]?=some (.q b 0 l l)) (hb:h[b]?=some (.cells cs ty)) (hc:c.Ok) (hp:plain cs=some (ys.flatMap c.enc)) (hl:ys.length=l) (hm:l<=1000)
  (hk:CallTo P (h.set b .dead++[.row true ty c ys]) f (args.set i (.s h.length l)) K):CallTo P h f args K:=by
 refine ⟨fun w0 β w vs hw hok hr=>?_⟩
 obtain ⟨us,hg,hvs⟩:=hw.blk b _ hb
 have hus:=plain_rel hp hvs
 have hblt:b < h.length:=(List.getElem?_eq_some_iff.1 hb).1
 have hocc:(Blk.cells cs ty).occ (β b)=some (β b).g:=rfl
 have hkill:=hw.kill b
 have hadd:=hkill.add (b:=.row true ty c ys) (l:=⟨0,some ⟨(β b).g,0,none⟩,l,c.sz,l⟩) ⟨hc,rfl,hl.symm,by simp only; rw [flat_length hc,hl],.inr ⟨(β b).g,l,us,rfl,Nat.zero_le _,hg,Nat.le_refl _,by simp only [maxLen]; omega,by rw [<-Array.length_toList,hus,flat_length hc,hl],by rw [hus,List.take_of_length_le (by rw [flat_length hc,hl]; exact Nat.le_refl _)]⟩⟩ trivial (by
  intro g hg'
  simp only [Blk.occ,Option.map_some] at hg'; injection hg' with hg'; subst hg'
  refine ⟨hw.mine b _ _ hb hocc,fun j d hj ho=>?_,fun j e c' xs hj hx d hd=>?_⟩
  ·rw [List.getElem?_set] at hj
   split at hj
   ·(try split at hj)
    ·injection hj with hj; subst hj; simp [Blk.occ] at ho
    all_goals (first | cases hj | skip)
   ·rename_i hne; exact hne (hw.inj b j _ d _ hb hj hocc ho)
  ·rw [List.getElem?_set] at hj
   split at hj
   ·(try split at hj)
    ·injection hj with hj; cases hj
    all_goals (first | cases hj | skip)
   ·exact hw.ro j b e c' xs _ _ hj hx hb hocc d hd) (fun _ _ _ e=>by cases e)
 have hls:(h.set b .dead).length=h.length:=by simp
 rw [hls] at hadd
 have hq:=AVRs_get hr hi
 obtain ⟨u,hu,hqr⟩:=hq
 simp only [AVR] at hqr
 subst hqr
 have hargs:AVRs (grow β h.length ⟨0,some ⟨(β b).g,0,none⟩,l,c.sz,l⟩) (args.set i (.s h.length l)) vs.toList:=by
  have h1:AVRs (grow β h.length ⟨0,some ⟨(β b).g,0,none⟩,l,c.sz,l⟩) args vs.toList:=AVRs_congr hok (fun _ h=>grow_lt h) hr
  have h2:=h1.set (x:=.s h.length l) (u:=.slice (some ⟨(β b).g,0,none⟩) l l) (avr_s (by omega) (by rw [grow_at]; simp) (by rw [grow_at]; simp)) i
  have e:vs.toList.set i (.slice (some ⟨(β b).g,0,none⟩) l l)=vs.toList:=by
   apply List.ext_getElem?
   intro j
   rw [List.getElem?_set]
   split
   ·rename_i e; subst e
    rw [hu]
    split
    ·rfl
    ·rename_i hlt; exact absurd (List.getElem?_eq_some_iff.1 hu).1 hlt
   ·rfl
  rw [e] at h2; exact h2
 obtain ⟨h1,h2⟩:=hk.out w0 _ w vs hadd (by
  simp only [List.length_append,hls,List.length_cons,List.length_nil]
  exact oks_set (AV.oks_mono hok (by omega)) (by simp only [AV.ok]; omega) i) hargs
 refine ⟨h1,h2.mono fun e w' hh=>?_⟩
 obtain ⟨v,x,h',β',he,q1,q2,q3,q4,q5⟩:=hh
 refine ⟨v,x,h',β',he,q1,q2,q3,⟨?_,fun j hj=>?_⟩,q5⟩
 ·have:=q4.1; simp at this; omega
 ·rw [q4.2 j (by simp; omega),grow_lt hj]
mutual
/-- Block numbers turned. -/
def AV.ren (ρ:Nat->Nat):AV->AV
 | .p b o=>.p (ρ b) o
 | .q b o l k=>.q (ρ b) o l k
 | .e b i o=>.e (ρ b) i o
 | .s b l=>.s (ρ b) l
 | .w b o l=>.w (ρ b) o l
 | .arr b=>.arr (ρ b)
 | .fn g fs caps=>.fn g (AV.rens ρ fs) (AV.rens ρ caps)
 | .tup l=>.tup (AV.rens ρ l)
 | .agg l=>.agg (AV.rens ρ l)
 | .yl b=>.yl (ρ b)
 | x=>x
def AV.rens (ρ:Nat->Nat):List AV->List AV
 | []=>[]
 | x::l=>AV.ren ρ x::AV.rens ρ l
end
/-- Slots: what the invariant tells holds. -/
def leA (ρ:Nat->Nat):List AV->List AV->Prop
 | [],[]=>True
 | _::xs,.any::ys=>leA ρ xs ys
 | .c x::xs,.v y::ys=>x=y/\leA ρ xs ys
 | x::xs,y::ys=>x=AV.ren ρ y/\leA ρ xs ys
 | _,_=>False
def leB (ρ:Nat->Nat):Option Blk->Blk->Prop
 | _,.dead=>True
 | some (.cells cs ty),.cells cs' ty'=>ty=ty'/\leA ρ cs cs'
 | some (.row o e c xs),.row o' e' c' xs'=>(o'=true->o=true)/\(o'=true->e=e')/\Sm c xs c' xs'
 | some (.lp st t ps c),.lp st' t' ps' c'=>st=st'/\leA ρ t t'/\ps=ps'/\c=c'
 | _,_=>False
def leH (ρ:Nat->Nat) (h:List Blk):Nat->List Blk->Prop
 | _,[]=>True
 | i,b::l=>leB ρ h[ρ i]? b/\leH ρ h (i+1) l
def rho (r:List Nat) (i:Nat):Nat:=r.getD i i
mutual
/-- All block numbers lie below n. -/
def AV.okB (n:Nat):AV->Bool
 | .p b _=>decide (b < n)
 | .q b _ _ _=>decide (b < n)
 | .e b _ _=>decide (b < n)
 | .s b _=>decide (b < n)
 | .w b _ _=>decide (b < n)
 | .arr b=>decide (b < n)
 | .fn _ fs caps=>AV.okBs n fs && AV.okBs n caps
 | .tup l=>AV.okBs n l
 | .agg l=>AV.okBs n l
 | .yl b=>decide (b < n)
 | _=>true
def AV.okBs (n:Nat):List AV->Bool
 | []=>true
 | x::l=>AV.okB n x && AV.okBs n l
end
def Blk.okB (n:Nat):Blk->Bool
 | .cells cs _=>AV.okBs n cs
 | .lp _ t _ _=>AV.okBs n t
 | _=>true
/-- The state s is one of which the invariant's state t tells; r: where the blocks of t are. -/
def St.le (m:Nat) (r:List Nat) (s t:St):Prop:=
 leA (rho r) s.t t.t/\leH (rho r) s.h 0 t.h/\((upTo 0 m).all fun i=>rho r i == i)=true/\((upTo 0 t.h.length).all fun i=>decide (rho r i < s.h.length) && (upTo 0 t.h.length).all fun j=>i == j || rho r i != rho r j)=true/\m<=t.h.length/\(AV.okBs t.h.length t.t && t.h.all (Blk.okB t.h.length))=true
mutual
theorem ren_rel {ρ:Nat->Nat}:∀ {x:AV} {v:Value},AVR β (x.ren ρ) v->AVR (fun i=>β (ρ i)) x v
 | .any,_,_=>by simp only [AVR]
 | .c _,_,h=>by simpa only [AV.ren,AVR] using h
 | .v _,_,h=>by simpa only [AV.ren,AVR] using h
 | .p _ _,_,h=>by simpa only [AV.ren,AVR] using h
 | .q _ _ _ _,_,h=>by simpa only [AV.ren,AVR] using h
 | .e _ _ _,_,h=>by simpa only [AV.ren,AVR] using h
 | .s _ _,_,h=>by simpa only [AV.ren,AVR] using h
 | .w _ _ _,_,h=>by simpa only [AV.ren,AVR] using h
 | .arr _,_,h=>by simpa only [AV.ren,AVR] using h
 | .yl _,_,h=>by simpa only [AV.ren,AVR] using h
 | .fn g fs caps,_,h=>by
  simp only [AV.ren,AVR] at h ⊢
  obtain ⟨a,b,h1,h2,h3⟩:=h
  exact ⟨a,b,h1,rens_rel h2,rens_rel h3⟩
 | .tup l,_,h=>by
  simp only [AV.ren,AVR] at h ⊢
  obtain ⟨a,h1,h2⟩:=h
  exact ⟨a,h1,rens_rel h2⟩
 | .agg l,_,h=>by
  simp only [AV.ren,AVR] at h ⊢
  obtain ⟨a,h1,h2⟩:=h
  exact ⟨a,h1,rens_rel h2⟩
theorem rens_rel {ρ:Nat->Nat}:∀ {l:List AV} {vs:List Value},AVRs β (AV.rens ρ l) vs->AVRs (fun i=>β (ρ i)) l vs
 | [],_,h=>by simpa only [AV.rens,AVRs] using h
 | x::l,_,h=>by
  simp only [AV.rens,AVRs] at h ⊢
  obtain ⟨u,us,h1,h2,h3⟩:=h
  exact ⟨u,us,h1,ren_rel h2,rens_rel h3⟩
end
mutual
theorem okB_ok {n:Nat}:∀ {x:AV},x.okB n=true->x.ok n
 | .any,_=>by simp only [AV.ok]
 | .c _,_=>by simp only [AV.ok]
 | .v _,_=>by simp only [AV.ok]
 | .p _ _,h=>by simpa [AV.okB,AV.ok] using h
 | .q _ _ _ _,h=>by simpa [AV.okB,AV.ok] using h
 | .e _ _ _,h=>by simpa [AV.okB,AV.ok] using h
 | .s _ _,h=>by simpa [AV.okB,AV.ok] using h
 | .w _ _ _,h=>by simpa [AV.okB,AV.ok] using h
 | .arr _,h=>by simpa [AV.okB,AV.ok] using h
 | .yl _,h=>by simpa [AV.okB,AV.ok] using h
 | .fn g fs caps,h=>by
  simp only [AV.okB,Bool.and_eq_true] at h
  simp only [AV.ok]
  exact ⟨okBs_ok h.1,okBs_ok h.2⟩
 | .tup l,h=>by simp only [AV.okB] at h; simp only [AV.ok]; exact okBs_ok h
 | .agg l,h=>by simp only [AV.okB] at h; simp only [AV.ok]; exact okBs_ok h
theorem okBs_ok {n:Nat}:∀ {l:List AV},AV.okBs n l=true->AV.oks n l
 | [],_=>by simp only [AV.oks]
 | x::l,h=>by
  simp only [AV.okBs,Bool.and_eq_true] at h
  simp only [AV.oks]
  exact ⟨okB_ok h.1,okBs_ok h.2⟩
end
theorem leA_rel {ρ:Nat->Nat}:∀ {l l':List AV} {vs:List Value},leA ρ l l'->AVRs β l vs->AVRs (fun i=>β (ρ i)) l' vs
 | [],[],_,_,h=>by simpa only [AVRs] using h
 | x::xs,y::ys,vs,hl,h=>by
  simp only [AVRs] at h ⊢
  obtain ⟨u,us,h1,h2,h3⟩:=h
  have key:x=AV.ren ρ y/\leA ρ xs ys->∃ u us,vs=u::us/\AVR (fun i=>β (ρ i)) y u/\AVRs (fun i=>β (ρ i)) ys us:=by
   rintro ⟨e,hr⟩
   subst e
   exact ⟨u,us,h1,ren_rel h2,leA_rel hr h3⟩
  cases y with
  | any=>simp only [leA] at hl; exact ⟨u,us,h1,by simp only [AVR],leA_rel hl h3⟩
  | v z=>
   cases x with
   | c x=>
    simp only [leA] at hl
    obtain ⟨rfl,hl⟩:=hl
    simp only [AVR] at h2
    exact ⟨u,us,h1,by simp only [AVR]; exact h2,leA_rel hl h3⟩
   | _=>exact key hl
  | _=>cases x<;>exact key hl
 | [],_::_,_,hl,_=>by simp [leA] at hl
 | _::_,[],_,hl,_=>by simp [leA] at hl
theorem leH_get {ρ:Nat->Nat} {h:List Blk}:∀ {l:List Blk} {i j:Nat} {b:Blk},leH ρ h i l->l[j]?=some b->leB ρ h[ρ (i+j)]? b
 | [],i,j,b,_,hj=>by simp at hj
 | x::l,i,j,b,hl,hj=>by
  simp only [leH] at hl
  cases j with
  | zero=>simp at hj; subst hj; exact hl.1
  | succ j=>
   have:=leH_get hl.2 (by simpa using hj)
   have e:i+1+j=i+(j+1):=by omega
   rw [e] at this; exact this
theorem upTo_mem:∀ {n i j:Nat},j ∈ upTo i n ↔ i<=j/\j < i+n
 | 0,i,j=>by simp only [upTo,List.not_mem_nil,false_iff]; omega
 | n+1,i,j=>by simp only [upTo,List.mem_cons,upTo_mem]; omega
theorem St.le_rel {m:Nat} {r:List Nat} {s t:St} (hl:St.le m r s t) {w0:Base} {w:World} {β0:Nat->Loc} {a:Act} (ht:RelT ds β s.h.length s.t a) (hw:RelW w0 β s.h w) (hx:Ext m β0 s.h β) :
  RelT ds (fun i=>β (rho r i)) t.h.length t.t a/\RelW w0 (fun i=>β (rho r i)) t.h w/\Ext m β0 t.h (fun i=>β (rho r i)):=by
 obtain ⟨h1,h2,h3,h4,h5,h6⟩:=hl
 simp only [Bool.and_eq_true,List.all_eq_true] at h6
 have hget:∀ (i:Nat) b,t.h[i]?=some b->leB (rho r) s.h[rho r i]? b:=by
  intro i b hi
  have:=leH_get h2 hi
  rw [Nat.zero_add] at this; exact this
 have hd:∀ i j,i < t.h.length->j < t.h.length->rho r i=rho r j->i=j:=by
  intro i j hi hj e
  have:=List.all_eq_true.1 h4 i (upTo_mem.2 ⟨Nat.zero_le _,by omega⟩)
  simp only [Bool.and_eq_true,List.all_eq_true,Bool.or_eq_true,beq_iff_eq,bne_iff_ne,ne_eq] at this
  rcases this.2 j (upTo_mem.2 ⟨Nat.zero_le _,by omega⟩) with h | h
  ·exact h
  ·exact absurd e h
 -- what an own block of t is in s
 have own:∀ (i:Nat) b g,t.h[i]?=some b->b.occ (β (rho r i))=some g->∃ b',s.h[rho r i]?=some b'/\b'.occ (β (rho r i))=some g:=by
  intro i b g hi ho
  have hb:=hget i b hi
  cases hs:s.h[rho r i]? with
  | none=>
   rw [hs] at hb
   cases b<;>simp [leB] at hb
   simp [Blk.occ] at ho
  | some b'=>
   rw [hs] at hb
   refine ⟨b',rfl,?_⟩
   cases b with
   | dead=>simp [Blk.occ] at ho
   | cells cs ty=>cases b'<;>simp [leB] at hb; exact ho
   | lp st t ps c=>cases b'<;>simp [leB] at hb; exact ho
   | row o e c xs=>
    cases b' with
    | row o' e' c' xs'=>
     simp only [leB] at hb
     cases o with
     | false=>simp [Blk.occ] at ho
     | true=>rw [hb.1 rfl]; exact ho
    | _=>simp [leB] at hb
 refine ⟨⟨leA_rel h1 ht.rel,ht.defers,okBs_ok h6.1⟩,⟨hw.below,fun i b hi=>?_,fun i b g hi ho=>?_,fun i j bi bj g hi hj q1 q2=>?_,fun i j e c xs bj g hi hne hj ho d hd'=>?_,fun b hb=>?_,hw.mks,hw.nd⟩,⟨h5,fun i hi=>?_⟩⟩
 ·have hb:=hget i b hi
  cases hs:s.h[rho r i]? with
  | none=>
   rw [hs] at hb
   cases b<;>simp [leB] at hb
   trivial
  | some b'=>
   rw [hs] at hb
   have hr:=hw.blk _ _ hs
   cases b with
   | dead=>trivial
   | cells cs ty=>
    cases b' with
    | cells cs' ty'=>
     simp only [leB] at hb
     obtain ⟨rfl,hb⟩:=hb
     obtain ⟨vs,q1,q2⟩:=hr
     exact ⟨vs,q1,leA_rel hb q2⟩
    | _=>simp [leB] at hb
   | lp st t ps c=>
    cases b' with
    | lp st' t' ps' c'=>
     simp only [leB] at hb
     obtain ⟨rfl,hb,rfl,rfl⟩:=hb
     obtain ⟨q,q1,q2,q3,q4⟩:=hr
     exact ⟨q,q1,q2,leA_rel hb q3,q4⟩
    | _=>simp [leB] at hb
   | row o e c xs=>
    cases b' with
    | row o' e' c' xs'=>
     simp only [leB] at hb
     obtain ⟨q1,q3,q2⟩:=hb
     cases q2
     have hrb:=hw.hb _ _ _ _ _ hs
     cases o with
     | true=>
      have:=q1 rfl; subst this
      have:=q3 rfl; subst this
      exact hr
     | false=>exact ⟨hrb.ok,hrb.z,hrb.n,hrb.cap,hw.reads hs⟩
    | _=>simp [leB] at hb
 ·obtain ⟨b',hs,ho'⟩:=own i b g hi ho
  exact hw.mine _ b' g hs ho'
 ·obtain ⟨b1,hs1,ho1⟩:=own i bi g hi q1
  obtain ⟨b2,hs2,ho2⟩:=own j bj g hj q2
  exact hd i j (List.getElem?_eq_some_iff.1 hi).1 (List.getElem?_eq_some_iff.1 hj).1 (hw.inj _ _ b1 b2 g hs1 hs2 ho1 ho2)
 ·intro e1
  obtain ⟨b2,hs2,ho2⟩:=own j bj g hj ho
  have hb:=hget i _ hi
  cases hs:s.h[rho r i]? with
  | none=>rw [hs] at hb; simp [leB] at hb
  | some b'=>
   rw [hs] at hb
   cases b' with
   | row o' e' c' xs'=>
    simp only [leB] at hb
    obtain ⟨q1,q3,q2⟩:=hb
    cases q2
    cases o' with
    | false=>exact hw.ro _ _ _ _ _ _ g hs hne hs2 ho2 d hd' e1
    | true=>
     have hoc:(Blk.row true e' c xs).occ (β (rho r i))=some g:=by simp only [Blk.occ]; rw [hd']; simp [e1]
     have:=hd i j (List.getElem?_eq_some_iff.1 hi).1 (List.getElem?_eq_some_iff.1 hj).1 (hw.inj _ _ _ _ g hs hs2 hoc ho2)
     subst this
     rw [hi] at hj; injection hj with hj; subst hj
     simp [Blk.occ] at ho
   | _=>simp [leB] at hb
 ·have:=h6.2 b hb
  cases b with
  | cells cs ty=>exact okBs_ok this
  | lp st t ps c=>exact okBs_ok this
  | _=>trivial
 ·have:=List.all_eq_true.1 h3 i (upTo_mem.2 ⟨Nat.zero_le _,by omega⟩)
  have e:rho r i=i:=by simpa using this
  simp only [e]
  exact hx.2 i hi
/-- A loop answered by an invariant. -/
theorem LoopTo.inv {ι:Type} {m:Nat} {c:Unit->Code} {B:Unit->(X->St->Prop)->St->Prop} {K:X->St->Prop} {s:St} (I:ι->St) (p:ι->Prop) (μ:ι->Nat) (i0:ι) (r0:List Nat) (hp:p i0) (h0:St.le m r0 s (I i0))
  (hb:∀ i,p i->B () (fun x s'=>match x with
   | .n=>∃ j r,p j/\μ j < μ i/\St.le m r s' (I j)
   | x=>K x s') (I i)):LoopTo P m c B K s:=by
 refine ⟨fun ro hB w0 β0 β M a w ht hw hx=>?_⟩
 have key:∀ k i (β:Nat->Loc) M a w,p i->μ i < k->RelT (M.map mark) β (I i).h.length (I i).t a->RelW (w0.add M) β (I i).h w->Ext m β0 (I i).h β->Code.roundsIn (fen ro) 0 P (c ()) (QQ w0 m β0 K) k a w:=by
  intro k
  induction k with
  | zero=>intro i β M a w _ h; omega
  | succ k ih=>
   intro i β M a w hpi hlt ht hw hx
   rw [roundsIn_succ]
   refine wpIn_mono (hB w0 β0 _ (I i) β M a w (hb i hpi) ht hw hx) (fun e a w hq=>?_)
   cases e with
   | normal=>
    obtain ⟨s',β',M',h1,h2,h3,j,r,h4,h5,h6⟩:=hq
    obtain ⟨q1,q2,q3⟩:=St.le_rel h6 h1 h2 h3
    exact ih j _ M' a w h4 (by omega) q1 q2 q3
   | exit j=>exact hq
   | ret=>exact hq
   | _=>exact hq
 obtain ⟨q1,q2,q3⟩:=St.le_rel h0 ht hw hx
 exact wpIn_loop_rounds (μ i0+1) (key _ i0 _ M a w hp (by omega) q1 q2 q3)
/-- The slots that a code writes. -/
def dsts:Code->List Nat
 | .region _ ops _=>ops.toList.filterMap (·.dst)
 | .seq a b=>dsts a++dsts b
 | .cond _ a b=>dsts a++dsts b
 | .block _ c=>dsts c
 | .loop c=>dsts c
 | _=>[]
def anyAll:List AV->List Nat->List AV
 | l,[]=>l
 | l,d::ds=>anyAll (l.set d .any) ds
def setAll {α:Type _}:List α->List (Nat × α)->List α
 | l,[]=>l
 | l,(i,x)::r=>setAll (l.set i x) r
/-- A state at a loop's head: what the round writes is not known, but for what is told. -/
def St.upd (s:St) (c:Code) (chg:List (Nat × AV)) (hc:List (Nat × Blk)):St:=⟨setAll (anyAll s.t (dsts c)) chg,setAll s.h hc⟩
/-- A loop answered by an invariant: which slots and blocks it tells of. -/
theorem LoopTo.by {ι:Type} {m:Nat} {c:Unit->Code} {B:Unit->(X->St->Prop)->St->Prop} {K:X->St->Prop} {s:St} (chg:ι->List (Nat × AV)) (hc:ι->List (Nat × Blk)) (p:ι->Prop) (μ:ι->Nat) (i0:ι) (r0:List Nat) (hp:p i0) (h0:St.le m r0 s (s.upd (c ()) (chg i0) (hc i0)))
  (hb:∀ i,p i->B () (fun x s'=>match x with
   | .n=>∃ j r,p j/\μ j < μ i/\St.le m r s' (s.upd (c ()) (chg j) (hc j))
   | x=>K x s') (s.upd (c ()) (chg i) (hc i))):LoopTo P m c B K s:=
 LoopTo.inv (fun i=>s.upd (c ()) (chg i) (hc i)) p μ i0 r0 hp h0 hb
/-- A nil slice is taken for an empty row of its own. -/
def St.nil (s:St) (k:Nat) (e:TypeId) (c:Cd):St:=⟨s.t.set k (.s s.h.length 0),s.h++[.row true e c []]⟩
theorem LoopTo.nil {m:Nat} {c:Unit->Code} {B:Unit->(X->St->Prop)->St->Prop} {K:X->St->Prop} {s:St} (k:Nat) (e:TypeId) (cd:Cd) (hc:cd.Ok) (hk:s.t[k]?=some (.c (.slice none 0 0))) (h:LoopTo P m c B K (s.nil k e cd)):LoopTo P m c B K s:=by
 refine ⟨fun ro hB w0 β0 β M a w ht hw hx=>?_⟩
 have hle:=hw.below.size
 refine h.out ro hB w0 β0 (grow β s.h.length ⟨0,none,0,cd.sz,0⟩) M a w ?_ ?_ ?_
 ·have e1:(s.nil k e cd).h.length=s.h.length+1:=by simp [St.nil]
  rw [e1]
  have ht':=ht.grow ⟨0,none,0,cd.sz,0⟩
  obtain ⟨u,hu,hr⟩:=AVRs_get ht'.rel hk
  simp only [AVR] at hr
  subst hr
  refine ⟨?_,ht'.defers,oks_set ht'.ok (by simp only [AV.ok]; omega) k⟩
  have h2:=ht'.rel.set (x:=.s s.h.length 0) (u:=.slice none 0 0) (avr_s (by omega) (by rw [grow_at]; simp) (by rw [grow_at]; simp)) k
  have e2:a.tmps.toList.set k (.slice none 0 0)=a.tmps.toList:=by
   apply List.ext_getElem?
   intro j
   rw [List.getElem?_set]
   split
   ·rename_i e; subst e
    rw [hu]
    split
    ·rfl
    ·rename_i hlt; exact absurd (List.getElem?_eq_some_iff.1 hu).1 hlt
   ·rfl
  rw [e2] at h2; exact h2
 ·exact hw.newRow hc rfl rfl (World.ownsRow_nil _ _ _ _) (Below.refl _ _)
 ·exact ⟨by have:=hx.1; simp [St.nil]; omega,fun i hi=>by rw [grow_lt (Nat.lt_of_lt_of_le hi hx.1),hx.2 i hi]⟩
end
end Go.Proofs.YtkipmmiiackdaaaGreat.Sx
namespace Go.Proofs.YtkipmmiiackdaaaGreat.Sx
open Env (std)
structure R where
 neg:Bool
 num:ByteArray
 den:ByteArray
structure Z where
 neg:Bool
 mag:ByteArray
structure Pt where
 x:R
 y:R
structure Sg where
 a:Pt
 b:Pt
abbrev R.c (r:R):List Value:=[.bool r.neg,.string r.num,.string r.den]
abbrev Z.c (r:Z):List Value:=[.bool r.neg,.string r.mag]
abbrev Pt.c (p:Pt):List Value:=[.bool p.x.neg,.string p.x.num,.string p.x.den,.bool p.y.neg,.string p.y.num,.string p.y.den]
abbrev Sg.c (s:Sg):List Value:=[.bool s.a.x.neg,.string s.a.x.num,.string s.a.x.den,.bool s.a.y.neg,.string s.a.y.num,.string s.a.y.den,.bool s.b.x.neg,.string s.b.x.num,.string s.b.x.den,.bool s.b.y.neg,.string s.b.y.num,.string s.b.y.den]
abbrev R.v (r:R):Value:=.agg r.c.toArray
abbrev Z.v (r:Z):Value:=.agg r.c.toArray
abbrev Pt.v (r:Pt):Value:=.agg r.c.toArray
abbrev Sg.v (r:Sg):Value:=.agg r.c.toArray
abbrev cInt (k:IntKind):Cd:=⟨Int,fun x=>[.int k x],fun l=>match l with
 | [.int k' x]=>if IntKind.same k k' then some x else none
 | _=>none,0,1⟩
abbrev cBool:Cd:=⟨Bool,fun x=>[.bool x],fun l=>match l with
 | [.bool x]=>some x
 | _=>none,false,1⟩
abbrev cStr:Cd:=⟨ByteArray,fun x=>[.string x],fun l=>match l with
 | [.string x]=>some x
 | _=>none,⟨#[]⟩,1⟩
abbrev cR:Cd:=⟨R,R.c,fun l=>match l with
 | [.bool a,.string b,.string c]=>some ⟨a,b,c⟩
 | _=>none,⟨false,⟨#[]⟩,⟨#[]⟩⟩,3⟩
abbrev cZ:Cd:=⟨Z,Z.c,fun l=>match l with
 | [.bool a,.string b]=>some ⟨a,b⟩
 | _=>none,⟨false,⟨#[]⟩⟩,2⟩
abbrev cP:Cd:=⟨Pt,Pt.c,fun l=>match l with
 | [.bool a,.string b,.string c,.bool d,.string e,.string f]=>some ⟨⟨a,b,c⟩,⟨d,e,f⟩⟩
 | _=>none,⟨⟨false,⟨#[]⟩,⟨#[]⟩⟩,⟨false,⟨#[]⟩,⟨#[]⟩⟩⟩,6⟩
abbrev cS:Cd:=⟨Sg,Sg.c,fun l=>match l with
 | [.bool a,.string b,.string c,.bool d,.string e,.string f,.bool a',.string b',.string c',.bool d',.string e',.string f']=>some ⟨⟨⟨a,b,c⟩,⟨d,e,f⟩⟩,⟨⟨a',b',c'⟩,⟨d',e',f'⟩⟩⟩
 | _=>none,⟨⟨⟨false,⟨#[]⟩,⟨#[]⟩⟩,⟨false,⟨#[]⟩,⟨#[]⟩⟩⟩,⟨⟨false,⟨#[]⟩,⟨#[]⟩⟩,⟨false,⟨#[]⟩,⟨#[]⟩⟩⟩⟩,12⟩
theorem cInt_ok (k:IntKind):(cInt k).Ok:=by
 refine ⟨fun _=>rfl,fun x u hu=>?_,fun l x h=>?_,Nat.one_pos⟩
 ·simp [cInt] at hu; subst hu; rfl
 ·simp only [cInt] at h ⊢
  split at h
  ·split at h
   ·rename_i hk; injection h with h; subst h; rw [same_eq hk]
   ·cases h
  ·cases h
theorem cBool_ok:cBool.Ok:=by
 refine ⟨fun _=>rfl,fun x u hu=>?_,fun l x h=>?_,Nat.one_pos⟩
 ·simp [cBool] at hu; subst hu; rfl
 ·simp only [cBool] at h ⊢
  split at h
  ·injection h with h; subst h; rfl
  ·cases h
theorem cStr_ok:cStr.Ok:=by
 refine ⟨fun _=>rfl,fun x u hu=>?_,fun l x h=>?_,Nat.one_pos⟩
 ·simp [cStr] at hu; subst hu; rfl
 ·simp only [cStr] at h ⊢
  split at h
  ·injection h with h; subst h; rfl
  ·cases h
theorem cR_ok:cR.Ok:=by
 refine ⟨fun _=>rfl,fun x u hu=>?_,fun l x h=>?_,by decide⟩
 ·simp [cR,R.c] at hu; rcases hu with rfl | rfl | rfl<;>rfl
 ·simp only [cR] at h ⊢
  split at h
  ·injection h with h; subst h; rfl
  ·cases h
theorem cZ_ok:cZ.Ok:=by
 refine ⟨fun _=>rfl,fun x u hu=>?_,fun l x h=>?_,by decide⟩
 ·simp [cZ,Z.c] at hu; rcases hu with rfl | rfl<;>rfl
 ·simp only [cZ] at h ⊢
  split at h
  ·injection h with h; subst h; rfl
  ·cases h
theorem cP_ok:cP.Ok:=by
 refine ⟨fun _=>rfl,fun x u hu=>?_,fun l x h=>?_,by decide⟩
 ·simp [cP,Pt.c] at hu; rcases hu with rfl | rfl | rfl | rfl | rfl | rfl<;>rfl
 ·simp only [cP] at h ⊢
  split at h
  ·injection h with h; subst h; rfl
  ·cases h
theorem cS_ok:cS.Ok:=by
 refine ⟨fun _=>rfl,fun x u hu=>?_,fun l x h=>?_,by decide⟩
 ·simp [cS,Sg.c] at hu; rcases hu with rfl | rfl | rfl | rfl | rfl | rfl | rfl | rfl | rfl | rfl | rfl | rfl<;>rfl
 ·simp only [cS] at h ⊢
  split at h
  ·injection h with h; subst h; rfl
  ·cases h
section
variable {P:Program}
/-! ### '==' of structs: small steps for the table -/
theorem shape_bool {b:Bool} {z l:List Value} (h:shape (.bool b::z) l=true):∃ a r,l=.bool a::r/\shape z r=true:=by
 cases l with
 | nil=>simp [shape] at h
 | cons x r=>cases x<;>simp [shape,shape1] at h; exact ⟨_,r,rfl,h⟩
theorem shape_string {b:ByteArray} {z l:List Value} (h:shape (.string b::z) l=true):∃ a r,l=.string a::r/\shape z r=true:=by
 cases l with
 | nil=>simp [shape] at h
 | cons x r=>cases x<;>simp [shape,shape1] at h; exact ⟨_,r,rfl,h⟩
theorem shape_nil {l:List Value} (h:shape [] l=true):l=[]:=by
 cases l with
 | nil=>rfl
 | cons x r=>simp [shape] at h
theorem eqGuard_agg {t:TypeId} (h:P.eqGuardType P.depth t=false) (op:BinOp) (x y:Operand) (xs ys:Array Value) (w:World):(eqGuard op t x y (.agg xs) (.agg ys)).run P w=.ok () w:=by
 cases op<;>simp [eqGuard,h]
theorem eq_both {t:TypeId} {x y:Operand} {xs ys:Array Value} {w:World} {b c:Bool} (hg:∀ op,(eqGuard op t x y (.agg xs) (.agg ys)).run P w=.ok () w) (he:(Op.equalIn Op.maxDepth t (.agg xs) (.agg ys)).run P w=.ok b w) (hb:c=b) :
  (do eqGuard .eql t x y (.agg xs) (.agg ys); binOp .eql t (.agg xs) (.agg ys)).run P w=.ok (.bool c) w/\(do eqGuard .neq t x y (.agg xs) (.agg ys); binOp .neq t (.agg xs) (.agg ys)).run P w=.ok (.bool (!c)) w:=by
 subst hb
 constructor
 ·simp only [Sem.run_bind,hg,Result.andThen_ok,binOp,Op.equal,he,Sem.run_pure]
 ·simp only [Sem.run_bind,hg,Result.andThen_ok,binOp,Op.equal,he,Sem.run_pure]
end
end Go.Proofs.YtkipmmiiackdaaaGreat.Sx
namespace Go.Proofs.YtkipmmiiackdaaaGreat.Sx
open Env (std)
open Go.ChangeShapes Go.WideShapes Go.ChangeAt Go.RowKit
section
variable {H:Type} {enc:TypeId × Value->H} {w:World} {base:Nat} {spare:Nat->Bool} {held:Bool}
theorem co_bool:Tryz.prog.cellsOf 4=1:=by kernel_rfl
theorem co_str:Tryz.prog.cellsOf 9=1:=by kernel_rfl
theorem co_R:Tryz.prog.cellsOf 31=3:=by kernel_rfl
theorem co_P:Tryz.prog.cellsOf 33=6:=by kernel_rfl
theorem len3 {α:Type} {l:List α} (h:l.length=3):∃ a b c,l=[a,b,c]:=by
 match l,h with
 | [a,b,c],_=>exact ⟨a,b,c,rfl⟩
theorem trod_R {fuel:Nat} {cs:List Value} {x:DataW H × List MemPlace} (h:DataW.trod enc Tryz.prog w base spare held fuel 31 cs=some x):∃ r:R,cs=r.c:=by
 obtain ⟨xs,n,rfl,_,hl,hx,hf⟩:=DataW.trod_struct Tryz.underlying31 h
 rw [co_R] at hl
 obtain ⟨a,b,c,rfl⟩:=len3 hl
 obtain ⟨y0,y1,y2,rfl⟩:=len3 hx
 have h0:DataW.trod enc Tryz.prog w base spare held n 4 (([a,b,c].drop 0).take (Tryz.prog.cellsOf 4))=some y0:=hf 0 _ rfl
 have h1:DataW.trod enc Tryz.prog w base spare held n 9 (([a,b,c].drop 1).take (Tryz.prog.cellsOf 9))=some y1:=hf 1 _ rfl
 have h2:DataW.trod enc Tryz.prog w base spare held n 9 (([a,b,c].drop 2).take (Tryz.prog.cellsOf 9))=some y2:=hf 2 _ rfl
 rw [co_bool] at h0
 rw [co_str] at h1 h2
 obtain ⟨u,hu,_⟩:=DataW.trod_bool Tryz.underlying4 h0
 obtain ⟨v,hv,_,_⟩:=DataW.trod_string Tryz.underlying9 h1
 obtain ⟨z,hz,_,_⟩:=DataW.trod_string Tryz.underlying9 h2
 simp at hu hv hz
 subst hu hv hz
 exact ⟨⟨u,v,z⟩,rfl⟩
theorem trod_P {fuel:Nat} {cs:List Value} {x:DataW H × List MemPlace} (h:DataW.trod enc Tryz.prog w base spare held fuel 33 cs=some x):∃ r:Pt,cs=r.c:=by
 obtain ⟨xs,n,rfl,_,hl,hx,hf⟩:=DataW.trod_struct Tryz.underlying33 h
 rw [co_P] at hl
 have hx:xs.length=2:=hx
 obtain ⟨y0,y1,rfl⟩:∃ a b,xs=[a,b]:=by
  match xs,hx with
  | [a,b],_=>exact ⟨a,b,rfl⟩
 have h0:DataW.trod enc Tryz.prog w base spare held n 31 ((cs.drop 0).take (Tryz.prog.cellsOf 31))=some y0:=hf 0 _ rfl
 have h1:DataW.trod enc Tryz.prog w base spare held n 31 ((cs.drop 3).take (Tryz.prog.cellsOf 31))=some y1:=hf 1 _ rfl
 rw [co_R] at h0 h1
 obtain ⟨u,hu⟩:=trod_R h0
 obtain ⟨v,hv⟩:=trod_R h1
 refine ⟨⟨u,v⟩,?_⟩
 have e:cs=(cs.drop 0).take 3++(cs.drop 3).take 3:=by
  match cs,hl with
  | [a,b,c,d,e,f],_=>rfl
 rw [e,hu,hv]; rfl
theorem okWide_agg {t:TypeId} {fs:Array Field} {r:Reach} {b0:Nat} {v:Value} (ht:Tryz.prog.underlying t=some (.struct fs)) (h:Value.okWide Tryz.prog w r b0 t v):∃ cs,v=.agg cs:=by
 unfold Value.okWide at h
 rw [ht] at h
 obtain ⟨cs,h,_⟩:=h
 exact ⟨cs,h⟩
theorem open_P {r:Reach} {b0:Nat} {v:Value} {d:DataW H} {ps:List MemPlace} (hv:Value.okWide Tryz.prog w r b0 33 v) (hd:DataW.Trod enc Tryz.prog w base spare held 33 v d ps):∃ r:Pt,v=r.v:=by
 obtain ⟨cs,rfl⟩:=okWide_agg Tryz.underlying33 hv
 obtain ⟨fuel,hf⟩:=hd
 obtain ⟨r,hr⟩:=trod_P hf
 exact ⟨r,congrArg Value.agg (Array.ext' hr)⟩
theorem trod_lt' {t:TypeId} {v:Value} {d:DataW H} {ps:List MemPlace} (h:DataW.Trod enc Tryz.prog w base spare held t v d ps):∀ x ∈ ps,x.block < w.heap.size:=by
 obtain ⟨m,hm⟩:=h
 exact DataW.trod_lt m _ _ _ hm
end
theorem own':ownKnob Tryz.prog.godebug=none:=by kernel_rfl
theorem laidOut':laidOutB Tryz.prog=true:=by kernel_rfl
end Go.Proofs.YtkipmmiiackdaaaGreat.Sx
namespace Go.Proofs.YtkipmmiiackdaaaGreat.Sx
open Env (std)
open Go.ChangeShapes Go.WideShapes Go.ChangeAt Go.RowKit
instance:Inhabited Pt:=⟨⟨⟨false,⟨#[]⟩,⟨#[]⟩⟩,⟨false,⟨#[]⟩,⟨#[]⟩⟩⟩⟩
theorem getD_range {α:Type} (f:Nat->α) {n i:Nat} {x:α} (h:((List.range n).map f)[i]?=some x):i < n/\x=f i:=by
 rw [List.getElem?_map] at h
 by_cases hi:i < n
 ·rw [List.getElem?_eq_getElem (by simpa using hi)] at h
  simp at h
  exact ⟨hi,h.symm⟩
 ·rw [List.getElem?_eq_none (by simpa using hi)] at h
  cases h
section
variable {H:Type} {enc:TypeId × Value->H} {w:World} {base:Nat} {spare:Nat->Bool} {held:Bool}
theorem open_L {r:Reach} {b0:Nat} {v:Value} {d:DataW H} {ps:List MemPlace} (hv:Value.okWide Tryz.prog w r b0 22 v) (hd:DataW.Trod enc Tryz.prog w base spare held 22 v d ps) :
  ∃ (xs:List Pt) (a:Option Addr) (k:Nat),v=.slice a xs.length k/\xs.length<=k/\k<=maxLen/\Reads w a cP xs:=by
 obtain ⟨a,len,cap,rfl⟩:=okWide_slice Tryz.underlying22 hv
 obtain ⟨fuel,hf⟩:=hd
 rcases Go.Deep.open_slice Tryz.underlying22 hf with ⟨h,_⟩ | ⟨a',len',cap',m,n,D,Pl,h,hb,hl,hm,hmm,_,hx⟩
 ·have h:Value.slice a len cap=.slice none 0 0:=by injection h
  injection h with h1 h2 h3
  subst h1 h2 h3
  exact ⟨[],none,0,rfl,Nat.le_refl _,Nat.zero_le _,fun i x hx=>by simp at hx⟩
 ·have h:Value.slice a len cap=.slice (some a') len' cap':=by injection h
  injection h with h1 h2 h3
  subst h1 h2 h3
  have hle:len<=m:=by rw [hmm]; split<;>omega
  rw [co_P] at hx
  obtain ⟨f,hf⟩:=Go.Deep.choose_lt (α:=Pt) (n:=len) (p:=fun i p=>w.cells? base (a'.add (i*6)) 6=some p.c) (fun i hi=>by
   obtain ⟨cs',h1,h2⟩:=hx i (by omega)
   obtain ⟨p,rfl⟩:=trod_P h2
   exact ⟨p,h1⟩)
  refine ⟨(List.range len).map f,some a',cap,by simp,by simpa using hl,hm,fun i x hx=>?_⟩
  obtain ⟨hi,rfl⟩:=getD_range f hx
  refine ⟨a',rfl,fun j u hu=>?_⟩
  obtain ⟨_,h2,h3⟩:=World.cells?_some (hf i hi)
  have hj:j < 6:=by
   have:=(List.getElem?_eq_some_iff.1 hu).1
   exact this
  have:=h3 j hj
  rw [Go.Deep.add_add] at this
  exact this.trans hu
end
end Go.Proofs.YtkipmmiiackdaaaGreat.Sx
