/- Part 8 of what the statement needs: an executor of Go texts, arithmetic, and contracts of the functions that are called. -/
import Derived.Test.YtkipmmiiackdaaaGreatCi7
set_option linter.unusedSimpArgs false
set_option linter.unusedVariables false
namespace Go.Proofs.YtkipmmiiackdaaaGreat.Sx
open Env (std)
open Go.RowKit Go.Proofs.YtkipmmiiackdaaaGreatW.PrintLast Go.Proofs.YtkipmmiiackdaaaGreatW.PrintWords
section
variable {P:Program} {β:Nat->Loc} {n:Nat} {s:St} {a:Act} {dd:List Deferred} {ro:Option Nat}
theorem fork_true {b:Bool} {x y:Unit->Prop} (h:fork b x y) (hb:b=true):x ():=h.t hb
theorem fork_false {b:Bool} {x y:Unit->Prop} (h:fork b x y) (hb:b=false):y ():=h.f hb
/-- A step of the executor, its pure part told apart. -/
theorem stepP_cases {tt:Tab} {E:Env} {C:Hdl} {n0:Option Nat} {o:Oper} {K:St->Prop} (h:stepP P E tt C n0 o s K) :
  (∃ p x,pureA E tt s o.op=some (p,x)/\(∀ q,p=some q->q)/\K (s.put o.dst x))\/actA P E tt C n0 o s K:=by
 unfold stepP at h
 split at h
 ·rename_i x he; exact .inl ⟨_,x,he,(fun q hq=>by cases hq),h⟩
 ·rename_i p x he; exact .inl ⟨_,x,he,(fun q hq=>by injection hq with hq; subst hq; exact h.ok),h.k⟩
 ·exact .inr h
theorem stepP_sound {tt:Tab} (hT:TabOk P tt) {C:Hdl} (hC:C.ok P) {w0:Base} {w:World} (ht:RelT dd β s.h.length s.t a) (hw:RelW w0 β s.h w) {o:Oper} {n0:Option Nat} {K:St->Prop} (h:stepP P std tt C n0 o s K)
  {Q:Exit->Act->World->Prop} {K':Act->World->Prop} (hK:∀ a' w',After dd w0 β s.h (isStoreB o.op || n0.isNone) K a' w'->K' a' w'):o.wpIn (fen ro) 0 P a w K' Q:=by
 rcases stepP_cases h with ⟨p,x,he,hp,hk⟩ | h
 ·obtain ⟨y,hy,hr,hok⟩:=pureA_sound hT ht hw.hb he hp
  exact wpi_of (hy w) (hK _ _ (.same ht hw hr hok hk)) (fun c e=>by rw [e] at he; cases he)
 ·exact actA_sound hT hC ht hw h hK
theorem yielded_of {ops:Array Oper} {j d:Nat} {oj:Oper} (hj:ops[j]?=some oj) (hd:oj.dst=some d) (ht:RelT dd β n s.t a) {x:AV} (hv:s.t[d]?=some x):∃ v,AVR β x v/\yielded ops a.tmps j=(match v with | .bool b=>some b | _=>none):=by
 obtain ⟨u,hu,hr⟩:=AVRs_get ht.rel hv
 have hu':a.tmps[d]?=some u:=by simpa using hu
 refine ⟨u,hr,?_⟩
 unfold yielded
 simp only [hj,Option.bind_some,hd,hu']
 cases u<;>rfl
theorem RelT.know (ht:RelT dd β n s.t a) {d:Nat} {b:Bool} (hv:s.t[d]?=some (.v (.bool b))):RelT dd β n (s.t.set d (.c (.bool b))) a:=by
 refine ⟨?_,ht.defers,oks_set ht.ok (by simp only [AV.ok]) d⟩
 obtain ⟨u,hu,hr⟩:=AVRs_get ht.rel hv
 simp only [AVR] at hr
 subst hr
 have:=ht.rel.set (x:=.c (.bool b)) (u:=.bool b) avr_c d
 have e:a.tmps.toList.set d (.bool b)=a.tmps.toList:=by
  apply List.ext_getElem?
  intro i
  rw [List.getElem?_set]
  split
  ·rename_i e; subst e
   rw [hu]
   split
   ·rfl
   ·rename_i hlt; exact absurd (List.getElem?_eq_some_iff.1 hu).1 hlt
  ·rfl
 rw [e] at this; exact this
/-- What a guard comes to. -/
theorem guardP_cases {tt:Tab} {E:Env} {C:Hdl} {ops:Array Oper} {n0:Option Nat} {o:Oper} {K:St->Prop} (ht:RelT dd β n s.t a) (h:guardP P E tt C n0 ops.toList o s K) :
  ∃ s':St,s'.h=s.h/\RelT dd β n s'.t a/\((Region.wanted o (yielded ops a.tmps)=true/\stepP P E tt C n0 o s' K)\/(Region.wanted o (yielded ops a.tmps)=false/\K (s'.put o.dst (.v undef)))):=by
 unfold guardP at h
 split at h
 ·rename_i hg
  exact ⟨s,rfl,ht,.inl ⟨by simp [Region.wanted,hg],h⟩⟩
 ·rename_i j want hg
  split at h
  ·rename_i oj hj
   have hj':ops[j]?=some oj:=by simpa using hj
   split at h
   ·rename_i d hd
    split at h
    ·rename_i b hv
     obtain ⟨v,hr,hy⟩:=yielded_of hj' hd ht hv
     simp only [AVR] at hr; subst hr
     simp only at hy
     refine ⟨s,rfl,ht,?_⟩
     split at h
     ·rename_i hb
      have:b=want:=by simpa using hb
      exact .inl ⟨by simp [Region.wanted,hg,hy,this],h⟩
     ·rename_i hb
      have:¬ b=want:=by simpa using hb
      exact .inr ⟨by simp [Region.wanted,hg,hy,this],h⟩
    ·rename_i b hv
     obtain ⟨v,hr,hy⟩:=yielded_of hj' hd ht hv
     simp only [AVR] at hr; subst hr
     simp only at hy
     have hkn:=ht.know hv
     cases want with
     | true=>
      simp only [if_true] at h
      cases b with
      | true=>exact ⟨{ s with t:=s.t.set d (.c (.bool true)) },rfl,hkn,.inl ⟨by simp [Region.wanted,hg,hy],h.t rfl⟩⟩
      | false=>exact ⟨{ s with t:=s.t.set d (.c (.bool false)) },rfl,hkn,.inr ⟨by simp [Region.wanted,hg,hy],h.f rfl⟩⟩
     | false=>
      simp only [Bool.false_eq_true,if_false] at h
      cases b with
      | true=>exact ⟨{ s with t:=s.t.set d (.c (.bool true)) },rfl,hkn,.inr ⟨by simp [Region.wanted,hg,hy],h.t rfl⟩⟩
      | false=>exact ⟨{ s with t:=s.t.set d (.c (.bool false)) },rfl,hkn,.inl ⟨by simp [Region.wanted,hg,hy],h.f rfl⟩⟩
    ·rename_i vs hv
     obtain ⟨v,hr,hy⟩:=yielded_of hj' hd ht hv
     simp only [AVR] at hr; subst hr
     simp only at hy
     exact ⟨s,rfl,ht,.inr ⟨by simp [Region.wanted,hg,hy],h⟩⟩
    ·exact h.elim
   ·exact h.elim
  ·exact h.elim
theorem guardP_sound {tt:Tab} (hT:TabOk P tt) {C:Hdl} (hC:C.ok P) {w0:Base} {w:World} {ops:Array Oper} (ht:RelT dd β s.h.length s.t a) (hw:RelW w0 β s.h w) {o:Oper} {i:Nat} (hi:ops[i]?=some o) {n0:Option Nat} {K:St->Prop} (h:guardP P std tt C n0 ops.toList o s K)
  {Q:Exit->Act->World->Prop} {K':Act->World->Prop} (hK:∀ a' w',After dd w0 β s.h (isStoreB o.op || n0.isNone) K a' w'->K' a' w'):wpOpIn (fen ro) 0 P ops Q i K' a w:=by
 unfold wpOpIn
 simp only [hi]
 obtain ⟨s',hh,ht',hc⟩:=guardP_cases ht h
 rw [<-hh] at ht' hw hK
 rcases hc with ⟨hw1,hs⟩ | ⟨hw1,hk⟩
 ·rw [if_pos hw1]; exact stepP_sound hT hC ht' hw hs hK
 ·rw [if_neg (by rw [hw1]; decide)]; exact ⟨fun f _=>trivial,hK _ _ (.same ht' hw avr_v (by simp only [AV.ok]) hk)⟩
/-- A region in the text's order. -/
theorem runText_sound {tt:Tab} (hT:TabOk P tt) {C:Hdl} (hC:C.ok P) {w0:Base} {m:Nat} {β0:Nat->Loc} {ops:Array Oper} {Q:Exit->Act->World->Prop} {K:St->Prop}:∀ (is:List Nat) (s:St) (β:Nat->Loc) (a:Act) (w:World),RelT dd β s.h.length s.t a->RelW w0 β s.h w->Ext m β0 s.h β ->
  runOrd P std tt C none ops.toList is s K->(∀ s' β' a' w',RelT dd β' s'.h.length s'.t a'->RelW w0 β' s'.h w'->Ext m β0 s'.h β'->K s'->Q .normal a' w')->wpOpsIn (fen ro) 0 P ops Q is a w
 | [],s,β,a,w,ht,hw,hx,h,hQ=>hQ s β a w ht hw hx h
 | i::is,s,β,a,w,ht,hw,hx,h,hQ=>by
  simp only [runOrd] at h
  split at h
  ·rename_i o ho
   have ho':ops[i]?=some o:=by simpa using ho
   rw [wpOpsIn_cons]
   refine guardP_sound hT hC ht hw ho' h (fun a' w' hA=>?_)
   obtain ⟨s',β',ht',hw',hx',_,hk⟩:=hA
   exact runText_sound hT hC is s' β' a' w' ht' hw' ⟨Nat.le_trans hx.1 hx'.1,fun i hi=>by rw [hx'.2 i (Nat.lt_of_lt_of_le hi hx.1),hx.2 i hi]⟩ hk hQ
  ·exact h.elim
theorem act_not_pure {E:Env} {tt:Tab} {op:Op} {p:Option Prop} {x:AV} (h:pureA E tt s op=some (p,x)):isActB op=false/\isLoadB op=false/\isStoreB op=false:=by
 cases op with
 | call c=>
  obtain ⟨callee,args,ts⟩:=c
  cases callee with
  | value f=>simp [pureA] at h
  | builtin b=>cases b<;>first | exact ⟨rfl,rfl,rfl⟩ | simp [pureA] at h
  | _=>exact ⟨rfl,rfl,rfl⟩
 | load t x=>simp [pureA] at h
 | store t x y=>simp [pureA] at h
 | alloc t=>simp [pureA] at h
 | box t x=>simp [pureA] at h
 | buildSlice t l p=>simp [pureA] at h
 | makeSlice t l p=>simp [pureA] at h
 | _=>exact ⟨rfl,rfl,rfl⟩
theorem act_is {tt:Tab} {E:Env} {C:Hdl} {m:Nat} {o:Oper} {K:St->Prop} (h:actA P E tt C (some m) o s K):isActB o.op=true\/isLoadB o.op=true\/isStoreB o.op=true:=by
 obtain ⟨dst,op,ty,pos,after,guard⟩:=o
 cases op with
 | call c=>
  obtain ⟨callee,args,ts⟩:=c
  cases callee with
  | value f=>exact .inl rfl
  | builtin b=>cases b<;>first | exact .inr (.inr rfl) | simp [actA] at h
  | _=>simp [actA] at h
 | load t x=>exact .inr (.inl rfl)
 | store t x y=>exact .inr (.inr rfl)
 | alloc t=>exact .inl rfl
 | box t x=>exact .inl rfl
 | buildSlice t l p=>exact .inl rfl
 | makeSlice t l p=>exact .inl rfl
 | convert t1 t2 x=>simp [actA] at h
 | binOp op t x y t2=>simp [actA] at h
 | _=>simp [actA] at h
theorem AVR_unique {x:AV} {u v:Value} (hd:x.det=true) (h:AVR β x u) (h':AVR β x v):u=v:=by
 cases x with
 | any=>simp [AV.det] at hd
 | w b o l=>simp [AV.det] at hd
 | fn g f c=>simp [AV.det] at hd
 | tup l=>simp [AV.det] at hd
 | agg l=>simp [AV.det] at hd
 | c y=>simp only [AVR] at h h'; rw [h,h']
 | v y=>simp only [AVR] at h h'; rw [h,h']
 | p b o=>simp only [AVR] at h h'; rw [h,h']
 | q b o l c=>simp only [AVR] at h h'; rw [h,h']
 | e b i o=>
  simp only [AVR] at h h'
  obtain ⟨_,_,d,h1,h2⟩:=h; obtain ⟨_,_,d',h1',h2'⟩:=h'
  rw [h1] at h1'; injection h1' with h1'; subst h1'; rw [h2,h2']
 | s b l=>simp only [AVR] at h h'; rw [h.2.2,h'.2.2]
 | yl b=>simp only [AVR] at h h'; rw [h,h']
 | arr b=>
  simp only [AVR] at h h'
  obtain ⟨d,h1,_,h2⟩:=h; obtain ⟨d',h1',_,h2'⟩:=h'
  rw [h1] at h1'; injection h1' with h1'; subst h1'; rw [h2,h2']
/-- One operation of a drawn region, and what comes behind it. -/
theorem draw_op {tt:Tab} (hT:TabOk P tt) {C:Hdl} (hC:C.ok P) {w0:Base} {m:Nat} {βm:Nat->Loc} {ops:Array Oper} {ds:List Nat} {h0:List Blk} {β0:Nat->Loc} (hok0:∀ b ∈ h0,b.okh h0.length) {Q:Exit->Act->World->Prop} {i:Nat} {o:Oper} {sd:Bool} {s:St} {β:Nat->Loc} {a:Act} {w:World} {F:St->Prop} {R:Act->World->Prop}
  (ho':ops[i]?=some o) (ht:RelT dd β s.h.length s.t a) (hw:RelW w0 β s.h w) (hle:h0.length<=s.h.length) (hβ:∀ i,i < h0.length->β i=β0 i) (hh0:sd=false->s.h.take h0.length=h0) (hx:Ext m βm s.h β)
  (h:guardP P std tt C (some h0.length) ops.toList o s F) (h1:isStoreB o.op=true->ds.contains i=true) (h2:isStoreB o.op=false->sd=true->ds.contains i=true)
  (rest:∀ s' β' a' w',RelT dd β' s'.h.length s'.t a'->RelW w0 β' s'.h w'->h0.length<=s'.h.length->(∀ i,i < h0.length->β' i=β0 i)->((sd || isStoreB o.op)=false->s'.h.take h0.length=h0)->Ext m βm s'.h β'->F s'->R a' w') :
  wpOpIn (fen ro) 0 P ops Q i (fun a' w'=>(i ∉ ds->RelW w0 β0 h0 w->RelW w0 β0 h0 w')/\R a' w') a w:=by
 refine guardP_sound hT hC ht hw ho' h (fun a' w' hA=>?_)
 obtain ⟨s',β',ht',hw',⟨hle',hβ'⟩,htake,hk⟩:=hA
 simp only [Option.isNone_some,Bool.or_false] at htake
 have hβ2:∀ i,i < h0.length->β' i=β0 i:=fun i hi=>by rw [hβ' i (by omega),hβ i hi]
 have htake2:sd=false->isStoreB o.op=false->s'.h.take h0.length=h0:=by
  intro e1 e2
  have e3:=htake e2
  have e4:=hh0 e1
  have:s'.h.take h0.length=(s'.h.take s.h.length).take h0.length:=by rw [List.take_take]; congr 1; omega
  rw [this,e3,e4]
 refine ⟨fun hn _=>?_,?_⟩
 ·have hns:isStoreB o.op=false:=by
   cases e:isStoreB o.op with
   | false=>rfl
   | true=>exact absurd (by simpa using h1 e) hn
  have hsd:sd=false:=by
   cases e:sd with
   | false=>rfl
   | true=>exact absurd (by simpa using h2 hns e) hn
  exact hw'.restrict (htake2 hsd hns) hβ2 hok0
 ·refine rest s' β' a' w' ht' hw' (by omega) hβ2 (fun e=>?_) ⟨Nat.le_trans hx.1 hle',fun i hi=>by rw [hβ' i (Nat.lt_of_lt_of_le hi hx.1),hx.2 i hi]⟩ hk
  simp only [Bool.or_eq_false_iff] at e
  exact htake2 e.1 e.2
theorem runDraw_sound {tt:Tab} (hT:TabOk P tt) {C:Hdl} (hC:C.ok P) {w0:Base} {m:Nat} {βm:Nat->Loc} {ops:Array Oper} {ds:List Nat} {h0:List Blk} {β0:Nat->Loc} (hok0:∀ b ∈ h0,b.okh h0.length) (hnd:noDefer ops=true)
  {Q:Exit->Act->World->Prop} (hQ:∀ c a w,¬ Q (.panic c) a w) {K:St->Prop}:∀ (t:Ot) (n:Nat) (l:Array Bool) (sd fl:Bool) (s:St) (β:Nat->Loc) (a:Act) (w:World),chk ops ds t n l sd fl=true ->
  RelT dd β s.h.length s.t a->RelW w0 β s.h w->h0.length<=s.h.length->(∀ i,i < h0.length->β i=β0 i)->(sd=false->s.h.take h0.length=h0)->Ext m βm s.h β ->
  runOt P std tt C (some h0.length) ops.toList t s K->(∀ s' β' a' w',RelT dd β' s'.h.length s'.t a'->RelW w0 β' s'.h w'->Ext m βm s'.h β'->K s'->Q .normal a' w') ->
  (fl=false->wpAnyLastIn P ro .any ops Q (fun w=>RelW w0 β0 h0 w) ds n l a w)/\(fl=true->∀ j ∈ idsO t,∃ n',n=n'+1/\wpOpIn (fen ro) 0 P ops Q j (fun a' w'=>(j ∉ ds->RelW w0 β0 h0 w->RelW w0 β0 h0 w')/\wpAnyLastIn P ro .any ops Q (fun w=>RelW w0 β0 h0 w) ds n' (l.setIfInBounds j true) a' w') a w)
 | .nil,n,l,sd,fl,s,β,a,w,hc,ht,hw,_,_,_,hx,h,hK=>by
  simp only [chk,Bool.and_eq_true,Bool.not_eq_true',beq_iff_eq] at hc
  refine ⟨fun _=>?_,fun e=>by rw [hc.1.1] at e; cases e⟩
  exact wpAnyLastIn_done hc.2 (hK s β a w ht hw hx h) n
 | .stop,n,l,sd,fl,s,β,a,w,hc,_,_,_,_,_,_,_,_=>by
  simp only [chk] at hc
  exact ⟨fun e=>(by rw [hc] at e; cases e),fun _ j hj=>by simp [idsO] at hj⟩
 | .wr i r,n,l,sd,fl,s,β,a,w,hc,ht,hw,hle,hβ,hh0,hx,h,hK=>by
  simp only [runOt] at h
  split at h
  ·rename_i o ho
   have ho':ops[i]?=some o:=by simpa using ho
   simp only [chk,ho',Bool.and_eq_true,Bool.not_eq_true'] at hc
   obtain ⟨hfl,hc⟩:=hc
   refine ⟨fun _=>?_,fun e=>by rw [hfl] at e; cases e⟩
   cases n with
   | zero=>cases hc
   | succ n=>
   simp only [Bool.and_eq_true] at hc
   obtain ⟨⟨hr,hds⟩,hc2⟩:=hc
   simp only [readyB,Bool.and_eq_true,beq_iff_eq] at hr
   refine wpAnyLastIn_all hr.1 (by simp) (fun j hj=>?_)
   have hji:j=i:=by simpa using hj
   subst hji
   refine guardP_sound hT hC ht hw ho' h (fun a' w' hA=>?_)
   obtain ⟨s',β',ht',hw',⟨hle',hβ'⟩,_,hk⟩:=hA
   refine ⟨fun hn _=>absurd (by simpa using hds) hn,?_⟩
   exact (runDraw_sound hT hC hok0 hnd hQ r n _ true false s' β' a' w' hc2 ht' hw' (by omega) (fun i hi=>by rw [hβ' i (by omega),hβ i hi]) (fun e=>by cases e) ⟨Nat.le_trans hx.1 hle',fun i hi=>by rw [hβ' i (Nat.lt_of_lt_of_le hi hx.1),hx.2 i hi]⟩ hk hK).1 rfl
  ·exact h.elim
 | .br i r nx,n,l,sd,fl,s,β,a,w,hc,ht,hw,hle,hβ,hh0,hx,h,hK=>by
  simp only [runOt] at h
  split at h
  ·rename_i o ho
   have ho':ops[i]?=some o:=by simpa using ho
   simp only [chk,ho',Bool.and_eq_true] at hc
   obtain ⟨⟨hc0,hc1⟩,hc2⟩:=hc
   cases n with
   | zero=>cases hc1
   | succ n=>
    simp only [Bool.and_eq_true,Bool.or_eq_true,Bool.not_eq_true'] at hc1
    obtain ⟨⟨q1,q2⟩,q3⟩:=hc1
    have hb:∀ j ∈ i::idsO nx,wpOpIn (fen ro) 0 P ops Q j (fun a' w'=>(j ∉ ds->RelW w0 β0 h0 w->RelW w0 β0 h0 w')/\wpAnyLastIn P ro .any ops Q (fun w=>RelW w0 β0 h0 w) ds n (l.setIfInBounds j true) a' w') a w:=by
     intro j hj
     rcases List.mem_cons.1 hj with rfl | hj
     ·refine draw_op hT hC hok0 ho' ht hw hle hβ hh0 hx h.l (fun e=>?_) (fun _ e=>?_) (fun s' β' a' w' g1 g2 g3 g4 g5 g6 g7=>?_)
      ·rcases q1 with q | q
       ·rw [e] at q; cases q
       ·exact q
      ·rcases q2 with q | q
       ·rw [e] at q; cases q
       ·exact q
      ·exact (runDraw_sound hT hC hok0 hnd hQ r n _ (sd || isStoreB o.op) false s' β' a' w' q3 g1 g2 g3 g4 g5 g6 g7 hK).1 rfl
     ·obtain ⟨n',e,q⟩:=(runDraw_sound hT hC hok0 hnd hQ nx (n+1) l sd true s β a w hc2 ht hw hle hβ hh0 hx h.r hK).2 rfl j hj
      injection e with e
      subst e
      exact q
    refine ⟨fun e=>?_,fun _ j hj=>⟨n,rfl,hb j hj⟩⟩
    subst e
    simp only [Bool.false_or,beq_iff_eq] at hc0
    exact wpAnyLastIn_all hc0 (by simp) hb
  ·exact h.elim
 | .op i r,n,l,sd,fl,s,β,a,w,hc,ht,hw,hle,hβ,hh0,hx,h,hK=>by
  simp only [runOt] at h
  split at h
  ·rename_i o ho
   have ho':ops[i]?=some o:=by simpa using ho
   simp only [chk,ho',Bool.and_eq_true,Bool.not_eq_true'] at hc
   obtain ⟨hfl,hc⟩:=hc
   refine ⟨fun _=>?_,fun e=>by rw [hfl] at e; cases e⟩
   cases n with
   | zero=>cases hc
   | succ n=>
   simp only [Bool.and_eq_true] at hc
   obtain ⟨hc1,hc2⟩:=hc
   have hS:sd=false->RelW w0 β0 h0 w:=fun e=>hw.restrict (hh0 e) hβ hok0
   -- an operation that comes up alone
   have alone:readyB .any ops l (l.setIfInBounds i true) i=true->(isStoreB o.op=true->ds.contains i=true)->(isStoreB o.op=false->sd=true->ds.contains i=true) ->
     wpAnyLastIn P ro .any ops Q (fun w=>RelW w0 β0 h0 w) ds (n+1) l a w:=by
    intro hr h1 h2
    simp only [readyB,Bool.and_eq_true,beq_iff_eq] at hr
    refine wpAnyLastIn_all hr.1 (by simp) (fun j hj=>?_)
    have hji:j=i:=by simpa using hj
    subst hji
    exact draw_op hT hC hok0 ho' ht hw hle hβ hh0 hx h h1 h2 (fun s' β' a' w' g1 g2 g3 g4 g5 g6 g7=>(runDraw_sound hT hC hok0 hnd hQ r n _ (sd || isStoreB o.op) false s' β' a' w' hc2 g1 g2 g3 g4 g5 g6 g7 hK).1 rfl)
   split at hc1
   ·rename_i hst
    simp only [Bool.and_eq_true] at hc1
    exact alone hc1.1 (fun _=>hc1.2) (fun e=>by rw [hst] at e; cases e)
   ·rename_i hst
    have hst':isStoreB o.op=false:=by simpa using hst
    split at hc1
    ·rename_i hact
     simp only [Bool.and_eq_true] at hc1
     exact alone hc1.1 (fun e=>by rw [hst'] at e; cases e) (fun _ e=>by simpa [e] using hc1.2)
    ·rename_i hact
     have hact':isActB o.op=false:=by simpa using hact
     rw [hst',Bool.or_false] at hc2
     obtain ⟨s1,hh1,ht1,hcase⟩:=guardP_cases ht h
     have hw1:RelW w0 β s1.h w:=by rw [hh1]; exact hw
     have ht1':RelT dd β s1.h.length s1.t a:=by rw [hh1]; exact ht1
     have hx1:Ext m βm s1.h β:=by rw [hh1]; exact hx
     have hle1:h0.length<=s1.h.length:=by rw [hh1]; exact hle
     have hh01:sd=false->s1.h.take h0.length=h0:=by rw [hh1]; exact hh0
     -- goes on with a value
     have on:∀ {x:AV} {y:Value} (d:Option Tmp),AVR β x y->x.ok s1.h.length->runOt P std tt C (some h0.length) ops.toList r (s1.put d x) K->wpAnyLastIn P ro .any ops Q (fun w=>RelW w0 β0 h0 w) ds n (l.setIfInBounds i true) (a.put d y) w:=by
      intro x y d hr hok hk
      refine (runDraw_sound hT hC hok0 hnd hQ r n _ sd false (s1.put d x) β _ w hc2 ?_ ?_ ?_ hβ ?_ ?_ hk hK).1 rfl
      ·rw [put_h]; exact ht1'.put hr hok d
      ·rw [put_h]; exact hw1
      ·rw [put_h]; exact hle1
      ·rw [put_h]; exact hh01
      ·rw [put_h]; exact hx1
     split at hc1
     ·rename_i hld
      simp only [Bool.and_eq_true,Bool.not_eq_true'] at hc1
      obtain ⟨hsd,htake⟩:=hc1
      rcases hcase with ⟨hwt,hs⟩ | ⟨hwf,hk⟩
      ·rcases stepP_cases hs with ⟨p,x,he,_⟩ | hact2
       ·have:=(act_not_pure he).2.1; rw [hld] at this; cases this
       ·obtain ⟨dst,op,ty,pos,after,guard⟩:=o
        cases op<;>simp [isLoadB] at hld
        rename_i t x
        simp only [actA] at hact2
        split at hact2
        ·rename_i y hy
         split at hact2
         ·rename_i hdet
          simp only [Option.isNone_some,Bool.false_or] at hdet
          have hlim:(lim (some h0.length) s1).h=h0:=hh01 hsd
          have hSβ:∀ w',RelW w0 β0 h0 w'->RelW w0 β h0 w':=fun w' hS'=>hS'.restrict List.take_length (fun i hi=>(hβ i hi).symm) hok0
          have hload:∀ w',RelW w0 β0 h0 w'->∃ v,(Instr.loadAt t (a.eval x)).run P w'=.ok v w'/\AVR β y v/\y.ok h0.length:=fun w' hS'=>by
           have:=loadA_sound (s:=lim (some h0.length) s1) hT ht1 (by rw [hlim]; exact hSβ w' hS') hy
           rw [hlim] at this; exact this
          obtain ⟨v,hv,hvr,hvok⟩:=hload w (hS hsd)
          refine takeIn_ hnd (v:=v) (l.setIfInBounds i true) ho' rfl htake (fun c a w hq=>absurd hq (hQ c _ _)) (.inl ⟨hwt,fun w' hS'=>?_⟩) (hS hsd) rfl ?_
          ·obtain ⟨v',hv',hvr',_⟩:=hload w' hS'
           rw [AVR_unique hdet hvr hvr']
           exact execLoad rfl hv'
          ·exact on dst hvr (AV.ok_mono hvok hle1) hact2
         ·exact hact2.elim
        ·exact hact2.elim
      ·refine takeIn_ hnd (l.setIfInBounds i true) ho' rfl htake (fun c a w hq=>absurd hq (hQ c _ _)) (.inr ⟨hwf,rfl⟩) (hS hsd) rfl ?_
       exact on _ avr_v (by simp only [AV.ok]) hk
     ·rename_i hld
      have hld':isLoadB o.op=false:=by simpa using hld
      rcases hcase with ⟨hwt,hs⟩ | ⟨hwf,hk⟩
      ·rcases stepP_cases hs with ⟨p,x,he,hp,hk⟩ | hact2
       ·obtain ⟨y,hy,hr,hok⟩:=pureA_sound hT ht1' hw1.hb he hp
        refine pureIn_ hnd (l.setIfInBounds i true) ho' rfl hc1 (fun c a w hq=>absurd hq (hQ c _ _)) (.inl ⟨hwt,hy⟩) rfl ?_
        exact on _ hr hok hk
       ·rcases act_is hact2 with e | e | e
        ·rw [hact'] at e; cases e
        ·rw [hld'] at e; cases e
        ·rw [hst'] at e; cases e
      ·refine pureIn_ hnd (l.setIfInBounds i true) ho' rfl hc1 (fun c a w hq=>absurd hq (hQ c _ _)) (.inr ⟨hwf,rfl⟩) rfl ?_
       exact on _ avr_v (by simp only [AV.ok]) hk
  ·exact h.elim
end
end Go.Proofs.YtkipmmiiackdaaaGreat.Sx
