/- Part 9 of what the statement needs: an executor of Go texts, arithmetic, and contracts of the functions that are called. -/
import Derived.Test.YtkipmmiiackdaaaGreatCi8
set_option linter.unusedSimpArgs false
set_option linter.unusedVariables false
namespace Go.Proofs.YtkipmmiiackdaaaGreat.Sx
open Env (std)
open Go.RowKit Go.Proofs.YtkipmmiiackdaaaGreatW.PrintLast Go.Proofs.YtkipmmiiackdaaaGreatW.PrintWords
section
variable {P:Program} {β:Nat->Loc} {n:Nat} {s:St} {a:Act} {ds:List Deferred}
theorem putObj_grown (w:World) (l:Nat) (o:Obj):w.grownBy (w.putObj l o) (some l):=
 ⟨rfl,rfl,rfl,by simp,fun k _ hk=>World.putObj_heap_other (fun e=>hk (by rw [e]))⟩
/-- Marks are forgotten. -/
theorem RelW.forget {w0:Base} {M:List Nat} {w:World} {h:List Blk} (hw:RelW (w0.add M) β h w):RelW w0 β h w:=
 ⟨hw.below,hw.blk,hw.mine,hw.inj,hw.ro,hw.okh,fun g hg=>hw.mks g (List.mem_append_right _ hg),(List.nodup_append.1 hw.nd).2.1⟩
theorem RelW.nil {w0:Base} {w:World} {h:List Blk} (hw:RelW w0 β h w):RelW (w0.add []) β h w:=hw
/-- A block for deferred calls is laid. -/
theorem RelW.mark {w0:Base} {M:List Nat} {w:World} {h:List Blk} (hw:RelW (w0.add M) β h w):RelW (w0.add (w.heap.size::M)) β h (w.alloc (.deferred (some []))):=by
 have hs:RelW (w0.add M) β h (w.alloc (.deferred (some []))):=hw.step ⟨rfl,rfl,rfl,by rw [World.size_alloc]; omega,fun k hk=>heap_push_lt hk⟩
 refine ⟨hs.below,hs.blk,hs.mine,hs.inj,hs.ro,hs.okh,fun g hg=>?_,?_⟩
 ·rcases List.mem_cons.1 (show g ∈ w.heap.size::(M++w0.M) from hg) with rfl | hg
  ·exact ⟨hw.below.size,heap_push_at⟩
  ·exact hs.mks g hg
 ·refine List.nodup_cons.2 ⟨fun hg=>?_,hw.nd⟩
  have:=hw.mk_lt hg
  omega
/-- The mark is come to. -/
theorem RelW.taken {w0:Base} {g:Nat} {M:List Nat} {w:World} {h:List Blk} (hw:RelW (w0.add (g::M)) β h w):RelW (w0.add M) β h (w.putObj g (.deferred none)):=by
 have hg:=hw.mks g (List.mem_cons_self ..)
 have hnd:g ∉ M++w0.M:=(List.nodup_cons.1 hw.nd).1
 have hw1:RelW (w0.add M) β h w:=⟨hw.below,hw.blk,hw.mine,hw.inj,hw.ro,hw.okh,fun k hk=>hw.mks k (List.mem_cons_of_mem _ hk),(List.nodup_cons.1 hw.nd).2⟩
 refine hw1.step' (putObj_grown w g _) (fun k hk=>?_) (fun k hk e=>?_)
 ·injection hk with hk; subst hk
  refine ⟨hg.1,fun i c hi ho=>hw.mk_ne (List.mem_cons_self ..) hi ho rfl,fun i e c xs hi hx d hd e2=>?_⟩
  subst e2
  have hr:=hw.reads hi
  have h0:0 < xs.length:=List.length_pos_iff.2 hx
  obtain ⟨b',hb',hcl⟩:=hr 0 xs[0] (List.getElem?_eq_getElem h0)
  rw [hd] at hb'; injection hb' with hb'; subst hb'
  have hcok:=(hw.hb i _ _ _ _ hi).ok
  have hl:0 < (c.enc xs[0]).length:=by rw [hcok.len]; exact hcok.pos
  have h3:=hcl 0 _ (List.getElem?_eq_getElem hl)
  simp only [Nat.zero_mul,Nat.zero_add] at h3
  have h4:d.add 0=d:=by simp [Addr.add]
  rw [h4] at h3
  unfold World.cell? at h3
  rw [hg.2] at h3
  cases h3
 ·injection e with e; subst e; exact hnd hk
/-- A block of its own is given up and changes. -/
theorem RelW.lose {w0:Base} {w:World} {h:List Blk} (hw:RelW w0 β h w) {b:Nat} {blk:Blk} (hb:h[b]?=some blk) {g:Nat} (ho:blk.occ (β b)=some g) (o:Obj):RelW w0 β (h.set b .dead) (w.putObj g o):=by
 refine (hw.kill b).step' (putObj_grown w g o) (fun k hk=>?_) (fun k hk e=>?_)
 ·injection hk with hk; subst hk
  refine ⟨hw.mine b _ _ hb ho,fun i c' hi ho'=>?_,fun i e c' xs' hi hx d hd=>?_⟩
  ·rw [List.getElem?_set] at hi
   split at hi
   ·(try split at hi)
    ·injection hi with hi; subst hi; simp [Blk.occ] at ho'
    all_goals (first | cases hi | skip)
   ·rename_i hne; exact hne (hw.inj b i _ c' _ hb hi ho ho')
  ·rw [List.getElem?_set] at hi
   split at hi
   ·(try split at hi)
    ·injection hi with hi; cases hi
    all_goals (first | cases hi | skip)
   ·exact hw.ro i b e c' xs' _ _ hi hx hb ho d hd
 ·injection e with e; exact hw.mk_ne hk hb ho e.symm
/-- The record of a loop is laid. -/
theorem RelW.newLp {w0:Base} {w:World} {h:List Blk} (hw:RelW w0 β h w) {r:Loop} {st:LS} {t:List AV} {ps:List Tmp} {c:Unit->Code × Code × Cfg} (l:Loc) (hl:l.g=w.heap.size) (ht:AV.oks h.length t)
  (h1:LSR st r) (h2:AVRs β t r.tmps.toList) (h3:r.params.toList=ps/\r.assign=(c ()).1/\r.body=(c ()).2.1/\codeOk (c ()).2.2.ord (c ()).1=true/\codeOk (c ()).2.2.ord (c ()).2.1=true/\(c ()).2.2.rd=true) :
  RelW w0 (grow β h.length l) (h++[.lp st t ps c]) (w.alloc (.loop r)):=by
 have hle:=hw.below.size
 have hw':RelW w0 β h (w.alloc (.loop r)):=hw.step ⟨rfl,rfl,rfl,by rw [World.size_alloc]; omega,fun k hk=>heap_push_lt hk⟩
 refine hw'.add ⟨r,by rw [hl]; exact heap_push_at,h1,AVRs_congr ht (fun _ h=>grow_lt h) h2,h3⟩ (AV.oks_mono ht (by omega)) (fun g hg=>?_) (fun _ _ _ e=>by cases e)
 simp only [Blk.occ] at hg; injection hg with hg; subst hg
 refine ⟨by omega,fun i c hi ho=>?_,fun i e c xs hi hx d hd e2=>?_⟩
 ·have:=hw.occ_lt hi ho; omega
 ·have:=hw.ro_lt hi hx hd; omega
/-- The record of a loop changes. -/
theorem RelW.setLp {w0:Base} {w:World} {h:List Blk} (hw:RelW w0 β h w) {b:Nat} {st st':LS} {t:List AV} {ps:List Tmp} {c:Unit->Code × Code × Cfg} (hb:h[b]?=some (.lp st t ps c)) {r r':Loop} (hg:w.heap[(β b).g]?=some (.loop r)) (h1:LSR st' r') (h2:r'.tmps=r.tmps) (h3:r'.params=r.params) (h4:r'.assign=r.assign) (h5:r'.body=r.body) :
  RelW w0 β (h.set b (.lp st' t ps c)) (w.putObj (β b).g (.loop r')):=by
 obtain ⟨q,q1,q2,q3,q4,q5,q6,q7⟩:=hw.blk b _ hb
 rw [hg] at q1; injection q1 with q1; injection q1 with q1; subst q1
 refine hw.change hb (g:=(β b).g) (show (Blk.lp st' t ps c).okh h.length from hw.okh (.lp st t ps c) (List.mem_of_getElem? hb)) rfl rfl ⟨r',?_,h1,by rw [h2]; exact q3,by rw [h3]; exact q4,by rw [h4]; exact q5,by rw [h5]; exact q6,q7⟩ (fun k hk=>World.putObj_heap_other hk) (by simp) rfl rfl rfl
 exact World.putObj_heap_same (Array.getElem?_eq_some_iff.1 hg).1
theorem calleeA_rel {M:List Nat} (ht:RelT (M.map mark) β n s.t a) {f:Operand} {i:FuncId} {first caps:List AV} (h:calleeA s f=some (i,first,caps)) :
  i ≠ yieldId/\∃ fs cs,a.eval f=.func (.func i) fs cs/\AVRs β first fs.toList/\AVRs β caps cs.toList/\AV.oks n first/\AV.oks n caps:=by
 unfold calleeA at h
 split at h
 ·rename_i g' fs cs he
  obtain ⟨h0,h1,h2,h3⟩:=realA_some h
  subst h1; subst h2; subst h3
  exact ⟨h0,fs,cs,ev_c ht he,AVRs.vs _,AVRs.vs _,oks_vs _,oks_vs _⟩
 ·rename_i g' fs cs he
  obtain ⟨h0,h1,h2,h3⟩:=realA_some h
  subst h1; subst h2; subst h3
  exact ⟨h0,fs,cs,ev_v ht he,AVRs.vs _,AVRs.vs _,oks_vs _,oks_vs _⟩
 ·rename_i g' fs cs he
  obtain ⟨h0,h1,h2,h3⟩:=realA_some h
  subst h1; subst h2; subst h3
  have:=ev_at ht he
  simp only [AVR,AV.ok] at this
  obtain ⟨⟨fs',cs',h1,h2,h3⟩,h4,h5⟩:=this
  exact ⟨h0,fs',cs',h1,h2,h3,h4,h5⟩
 ·cases h
theorem scopeOf_some {c c1 r:Code} {l:Nat} (h:scopeOf c=some (c1,l,r)):∃ x y,c=.seq x (.scope (.seq y (.seq (.label l) r)))/\c1=.seq x y/\findLabel (.seq y (.seq (.label l) r)) l=some (.seq .skip r):=by
 unfold scopeOf at h
 split at h
 ·rename_i x y l' r'
  split at h
  ·rename_i hn
   simp only [Option.isNone_iff_eq_none] at hn
   injection h with h
   injection h with h1 h
   injection h with h2 h3
   subst h1; subst h2; subst h3
   refine ⟨x,y,rfl,rfl,?_⟩
   simp [findLabel,hn]
  ·cases h
 ·cases h
/-- A scope: by its code, and what a jump to the label leads to. -/
theorem wpIn_scope_re {F:Fence} {n:Nat} {cc rest:Code} {l:Nat} {Q:Exit->Act->World->Prop} {a:Act} {w:World} (hF:F.round=none) (hf:findLabel cc l=some rest) (h:cc.wpIn F n P (JmpIn F n P cc rest l Q) a w):(Code.scope cc).wpIn F n P Q a w:=by
 intro b k cs hro hb hr
 have hb0:b.roundOf=none:=hro.trans hF
 have h0:(lone (b.atR a (.code (.scope cc)::k)) cs w).fenced P F:=fenced_calm hb hr rfl
 have hg:gotoIn l (.inScope cc::k)=some (.code rest::.inScope cc::k):=by simp [gotoIn,hf]
 have s1:step P (lone (b.atR a (.code (.scope cc)::k)) cs w)=.next (lone (b.atR a (.code cc::.inScope cc::k)) cs w):=by
  simp only [Frame.atR_of_none hb0]; exact step_scope
 obtain ⟨e,a₁,w₁,hq,harr⟩:=h b (.inScope cc::k) cs hro hb hr
 cases e with
 | normal=>
  have s2:step P (lone (b.atR a₁ (.inScope cc::k)) cs w₁)=.next (lone (b.atR a₁ k) cs w₁):=by
   simp only [Frame.atR_of_none hb0]; exact step_inScope
  exact ⟨.normal,a₁,w₁,hq,.head h0 s1 (StepsIn.trans harr (.one (fenced_calm hb hr rfl) s2))⟩
 | exit id=>
  have hx:exitTo id (.inScope cc::k)=exitTo id k:=by simp [exitTo]
  exact ⟨_,a₁,w₁,hq,fun k' hk=>.head h0 s1 (harr.1 k' (by rw [hx]; exact hk)),fun hr' hk=>let ⟨k₁,h1,h2⟩:=harr.2 hr' (by rw [hx]; exact hk); ⟨k₁,h1,.head h0 s1 h2⟩⟩
 | goto l'=>
  obtain ⟨rfl,hre⟩:=hq
  obtain ⟨e₂,a₂,w₂,hq₂,harr₂⟩:=hre b k cs hro hb hr
  exact ⟨e₂,a₂,w₂,hq₂,.of_steps (.head h0 s1 (harr.1 _ hg)) harr₂⟩
 | ret=>exact ⟨_,a₁,w₁,hq,.of_steps (.one h0 s1) harr⟩
 | panic ch=>exact ⟨_,a₁,w₁,hq,.of_steps (.one h0 s1) harr⟩
 | outgrown=>exact ⟨_,a₁,w₁,hq,.of_steps (.one h0 s1) harr⟩
theorem wpP_sound {tt:Tab} (hT:TabOk P tt) (hm:P.follows .mixedOrders=true) {C:Hdl} (hC:C.ok P) {g:Cfg} {m:Nat} {ro:Option Nat} (hro:g.rd=false->ro=none):∀ (c:Code) (w0:Base) (β0:Nat->Loc) (K:X->St->Prop) (s:St) (β:Nat->Loc) (M:List Nat) (a:Act) (w:World),
  wpP P std tt C g m c K s->codeOk g.ord c=true->RelT (M.map mark) β s.h.length s.t a->RelW (w0.add M) β s.h w->Ext m β0 s.h β->c.wpIn (fen ro) 0 P (QQ w0 m β0 K) a w:=by
 intro c
 induction c with
 | skip=>intro w0 β0 K s β M a w h _ ht hw hx; exact wpIn_skip ⟨s,β,M,ht,hw,hx,h⟩
 | ret=>intro w0 β0 K s β M a w h _ ht hw hx; exact wpIn_ret ⟨s,β,M,ht,hw,hx,h⟩
 | exit id=>intro w0 β0 K s β M a w h _ ht hw hx; exact wpIn_exit ⟨s,β,M,ht,hw,hx,h⟩
 | goto l=>intro w0 β0 K s β M a w h _ ht hw hx; exact wpIn_goto ⟨s,β,M,ht,hw,hx,h⟩
 | seq x y ihx ihy=>
  intro w0 β0 K s β M a w h hc ht hw hx
  simp only [codeOk,Bool.and_eq_true] at hc
  refine wpIn_seq (wpIn_mono (ihx _ _ _ s β M a w h hc.1 ht hw hx) (fun e a w hq=>?_))
  cases e with
  | normal=>obtain ⟨s',β',M',h1,h2,h3,h4⟩:=hq; exact ihy _ _ K s' β' M' a w h4 hc.2 h1 h2 h3
  | exit id=>exact hq
  | ret=>exact hq
  | _=>exact hq
 | block id c ih=>
  intro w0 β0 K s β M a w h hc ht hw hx
  refine wpIn_block (wpIn_mono (ih _ _ _ s β M a w h hc ht hw hx) (fun e a w hq=>?_))
  cases e with
  | normal=>exact hq
  | exit j=>
   obtain ⟨s',β',M',h1,h2,h3,h4⟩:=hq
   simp only [Exit.inBlock]
   by_cases e:j=id
   ·rw [if_pos e]
    simp only [e,beq_self_eq_true,if_true] at h4
    exact ⟨s',β',M',h1,h2,h3,h4⟩
   ·rw [if_neg e]
    have:(j == id)=false:=by simpa using e
    simp only [this,Bool.false_eq_true,if_false] at h4
    exact ⟨s',β',M',h1,h2,h3,h4⟩
  | ret=>exact hq
  | _=>exact hq
 | cond c x y ihx ihy=>
  intro w0 β0 K s β M a w h hc ht hw hx
  simp only [codeOk,Bool.and_eq_true] at hc
  simp only [wpP] at h
  split at h
  ·rename_i he
   refine wpIn_cond_split (ev_c ht he) (fun e=>?_) (fun e=>?_)
   ·exact ihx _ _ K s β M a w h hc.1 ht hw hx
   ·cases e
  ·rename_i he
   refine wpIn_cond_split (ev_c ht he) (fun e=>?_) (fun e=>?_)
   ·cases e
   ·exact ihy _ _ K s β M a w h hc.2 ht hw hx
  ·rename_i t he
   refine wpIn_cond_split (ev_v ht he) (fun e=>?_) (fun e=>?_)
   ·exact ihx _ _ K s β M a w (fork_true h e) hc.1 ht hw hx
   ·exact ihy _ _ K s β M a w (fork_false h e) hc.2 ht hw hx
  ·exact h.elim
 | region id ops draws=>
  intro w0 β0 K s β M a w h hc ht hw hx
  simp only [wpP] at h
  cases draws with
  | true=>
   simp only [if_true] at h
   simp only [codeOk,ordOk,Bool.and_eq_true] at hc
   have key:∀ (w0:Base) (β0:Nat->Loc) (K:X->St->Prop) (β:Nat->Loc) (M:List Nat) (a:Act) (w:World),runOt P std tt C (some s.h.length) ops.toList (ordOf g.ord id) s (fun s'=>K .n s')->RelT (M.map mark) β s.h.length s.t a->RelW (w0.add M) β s.h w->Ext m β0 s.h β->(Code.region id ops true).wpIn (fen ro) 0 P (QQ w0 m β0 K) a w:=by
    intro w0 β0 K β M a w h ht hw hx
    refine wpIn_region_last (S:=fun w=>RelW (w0.add M) β s.h w) (ds:=dsOf ops (ordOf g.ord id) false) hm ?_
    exact (runDraw_sound (Q:=QQ w0 m β0 K) hT hC hw.okh hc.1 (fun c a w hq=>hq) (ordOf g.ord id) _ _ false false s β a _ hc.2 ht hw.drew (Nat.le_refl _) (fun _ _=>rfl) (fun _=>List.take_length) hx h (fun s' β' a' w' h1 h2 h3 h4=>⟨s',β',M,h1,h2,h3,h4⟩)).1 rfl
   split at h
   ·exact h.out ro key w0 β0 β M a w ht hw hx
   ·exact key w0 β0 K β M a w h ht hw hx
  | false=>
   simp only [Bool.false_eq_true,if_false] at h
   refine wpIn_region ?_
   have e:∀ n i,upTo i n=List.range' i n:=by
    intro n
    induction n with
    | zero=>intro i; rfl
    | succ n ih=>intro i; simp [upTo,ih,List.range'_succ]
   rw [e,Array.length_toList,<-List.range_eq_range'] at h
   exact runText_sound hT hC _ s β a w ht hw hx h (fun s' β' a' w' h1 h2 h3 h4=>⟨s',β',M,h1,h2,h3,h4⟩)
 | loop c ih=>
  intro w0 β0 K s β M a w h hc ht hw hx
  simp only [wpP] at h
  split at h
  ·exact h.out ro (fun w0 β0 K s β M a w h ht hw hx=>ih w0 β0 K s β M a w h hc ht hw hx) w0 β0 β M a w ht hw hx
  ·have key:∀ k s β M a w,rounds (wpP P std tt C g m c) K k s->RelT (M.map mark) β s.h.length s.t a->RelW (w0.add M) β s.h w->Ext m β0 s.h β->Code.roundsIn (fen ro) 0 P c (QQ w0 m β0 K) k a w:=by
    intro k
    induction k with
    | zero=>intro s β M a w h _ _ _; exact h.elim
    | succ k ihk=>
     intro s β M a w h ht hw hx
     simp only [rounds] at h
     rw [roundsIn_succ]
     refine wpIn_mono (ih _ _ _ s β M a w h hc ht hw hx) (fun e a w hq=>?_)
     cases e with
     | normal=>obtain ⟨s',β',M',h1,h2,h3,h4⟩:=hq; exact ihk s' β' M' a w h4 h1 h2 h3
     | exit j=>exact hq
     | ret=>exact hq
     | _=>exact hq
   exact wpIn_loop_rounds (g.unr c) (key (g.unr c) s β M a w h ht hw hx)
 | rangeFunc f ps asg body _ _=>
  intro w0 β0 K s β M a w h hc ht hw hx
  simp only [wpP] at h
  split at h
  ·exact h.elim
  ·rename_i hrd
   have hr0:ro=none:=hro (by simpa using hrd)
   subst hr0
   split at h
   ·rename_i i first caps hcal
    simp only [codeOk,Bool.and_eq_true] at hc
    obtain ⟨hne,fs,cs,hfv,hr1,hr2,hk1,hk2⟩:=calleeA_rel ht hcal
    refine wpIn_rangeFunc (fun fn _=>?_)
    have hw1:=hw.mark
    have hsz:(w.alloc (.deferred (some []))).heap.size=w.heap.size+1:=World.size_alloc _ _
    have hw2:=hw1.newLp (r:={ state:=.ready,pending:=none,fn,tmps:=a.tmps,params:=ps,assign:=asg,body:=body,defers:=w.heap.size }) (st:=.ready) (t:=s.t) (ps:=ps.toList) (c:=fun _=>(asg,body,{ g with rd:=true })) ⟨w.heap.size+1,none,0,0,0⟩ hsz.symm ht.ok ⟨rfl,rfl⟩ ht.rel ⟨rfl,rfl,rfl,hc.1,hc.2,rfl⟩
    have hlen:(s.h++[Blk.lp .ready s.t ps.toList (fun _=>(asg,body,{ g with rd:=true }))]).length=s.h.length+1:=by simp
    obtain ⟨hent,hout⟩:=(hC.1 _ _ _ _ h hne).out _ _ _ (fs++#[.func (.yield (w.heap.size+1)) #[] #[]]++cs) hw2 (by
      rw [hlen]
      exact oks_append (oks_append (AV.oks_mono hk1 (by omega)) (by simp only [AV.oks,AV.ok]; exact ⟨by omega,trivial⟩)) (AV.oks_mono hk2 (by omega))) (by
      have e:(fs++#[Value.func (.yield (w.heap.size+1)) #[] #[]]++cs).toList=fs.toList++[Value.func (.yield (w.heap.size+1)) #[] #[]]++cs.toList:=by simp
      rw [e]
      refine ((AVRs_congr hk1 (fun _ h=>grow_lt h) hr1).append (AVRs.cons ?_ AVRs.nil)).append (AVRs_congr hk2 (fun _ h=>grow_lt h) hr2)
      simp only [AVR,grow_at])
    have hen:=run_enterLoop_outer (P:=P) (w:=w) fn a.tmps ps asg body
    generalize (w.alloc (.deferred (some []))).alloc (.loop { state:=.ready,pending:=none,fn,tmps:=a.tmps,params:=ps,assign:=asg,body:=body,defers:=w.heap.size })=W at hen hw2 hent hout
    refine ⟨w.heap.size+1,[mark w.heap.size],W,{ target:=.fn (.func i) cs,args:=fs++#[.func (.yield (w.heap.size+1)) #[] #[]] },W,i,fs++#[.func (.yield (w.heap.size+1)) #[] #[]]++cs,W,hen,?_,fun _ _=>trivial,?_,fun e=>(by cases e),?_⟩
    ·simp only [resolve,rangeCall,hfv,Deferred.ofValue,Sem.run_bind,Sem.run_pure,Result.andThen_ok]
     simp [Act.eval]
    ·simp only [invoke]
     exact hent
    ·refine (calls_fen hout).mono fun e w3 hh=>?_
     obtain ⟨v,x,h',β',rfl,hxr,hxk,hw',hext,hk⟩:=hh
     have hlt:s.h.length < (s.h++[Blk.lp .ready s.t ps.toList (fun _=>(asg,body,{ g with rd:=true }))]).length:=by omega
     have hβn:β' s.h.length=⟨w.heap.size+1,none,0,0,0⟩:=by rw [hext.2 _ hlt,grow_at]
     have hβl:∀ i,i < s.h.length->β' i=β i:=fun i hi=>by rw [hext.2 i (by omega),grow_lt hi]
     have hle:s.h.length<=h'.length:=by have:=hext.1; omega
     -- what the loop leaves
     have done_:∀ {st t ps' c'} (r:Loop),h'[s.h.length]?=some (.lp st t ps' c')->w3.heap[w.heap.size+1]?=some (.loop r) ->
       RelT ((w.heap.size::M).map mark) β' (h'.set s.h.length .dead).length s.t { a with defers:=[mark w.heap.size]++a.defers }/\RelW (w0.add (w.heap.size::M)) β' (h'.set s.h.length .dead) (w3.putObj (w.heap.size+1) (.loop { r with state:=.exhausted }))/\Ext m β0 (h'.set s.h.length .dead) β':=by
      intro st t ps' c' r hb hr
      refine ⟨⟨AVRs_congr ht.ok hβl ht.rel,by simp [ht.defers],by rw [List.length_set]; exact AV.oks_mono ht.ok hle⟩,?_,⟨by rw [List.length_set]; exact Nat.le_trans hx.1 hle,fun i hi=>by rw [hβl i (Nat.lt_of_lt_of_le hi hx.1),hx.2 i hi]⟩⟩
      have:=hw'.lose hb (g:=w.heap.size+1) (by simp only [Blk.occ,hβn]) (.loop { r with state:=.exhausted })
      exact this
     split at hk
     ·rename_i t ps' c' hb
      obtain ⟨r,hr,⟨hst,hpe⟩,_⟩:=hw'.blk _ _ hb
      rw [hβn] at hr
      obtain ⟨q1,q2,q3⟩:=done_ r hb hr
      refine ⟨r.pending,_,run_endLoop hr (by rw [hst]; decide),?_⟩
      rw [hpe] at q2 ⊢
      exact ⟨{ s with h:=h'.set s.h.length .dead },β',_,q1,q2,q3,hk⟩
     ·rename_i x t ps' c' hb
      obtain ⟨r,hr,hls,_⟩:=hw'.blk _ _ hb
      rw [hβn] at hr
      obtain ⟨q1,q2,q3⟩:=done_ r hb hr
      cases x with
      | n=>exact hls.elim
      | g l=>exact hls.elim
      | e id=>
       obtain ⟨hst,hpe⟩:=hls
       refine ⟨r.pending,_,run_endLoop hr (by rw [hst]; decide),?_⟩
       rw [hpe] at q2 ⊢
       exact wpIn_exit ⟨{ s with h:=h'.set s.h.length .dead },β',_,q1,q2,q3,hk⟩
      | r=>
       obtain ⟨hst,hpe⟩:=hls
       refine ⟨r.pending,_,run_endLoop hr (by rw [hst]; decide),?_⟩
       rw [hpe] at q2 ⊢
       exact wpIn_ret ⟨{ s with h:=h'.set s.h.length .dead },β',_,q1,q2,q3,hk⟩
     ·exact hk.elim
   ·exact h.elim
 | _=>intro w0 β0 K s β M a w h; exact h.elim
theorem results_sound {tt:Tab} (hT:TabOk P tt) {w0:Base} {w:World} (ht:RelT ds β s.h.length s.t a) (hw:RelW w0 β s.h w):∀ (l:List ResultVar) (xs:List AV),resA std tt s l=some xs ->
  ∃ vs:List Value,(l.mapM fun
   | .tmp t=>pure (a.tmps.getD t undef)
   | .cell b t=>do loadVar t (<- asAddr (a.tmps.getD b undef)):Sem (List Value)).run P w=.ok vs w/\AVRs β xs vs/\AV.oks s.h.length xs
 | [],vs,h=>by simp only [resA] at h; injection h with h; subst h; exact ⟨[],rfl,by simp only [AVRs],by simp only [AV.oks]⟩
 | .tmp t::l,vs,h=>by
  simp only [resA] at h
  split at h
  ·cases h
  ·rename_i x r h2 hne
   injection h with h; subst h
   obtain ⟨us,h3,h4,h5⟩:=results_sound hT ht hw l r h2
   have hx:=ev_rel (s:=s) ht (.tmp t)
   simp only [Act.eval,ev] at hx
   refine ⟨a.tmps.getD t undef::us,?_,AVRs.cons hx.1 h4,by simp only [AV.oks]; exact ⟨hx.2,h5⟩⟩
   rw [List.mapM_cons]
   simp only [Sem.run_bind,Sem.run_pure,Result.andThen_ok,h3]
  ·cases h
 | .cell b t::l,vs,h=>by
  simp only [resA] at h
  split at h
  ·rename_i x r h1 h2
   injection h with h; subst h
   obtain ⟨us,h3,h4,h5⟩:=results_sound hT ht hw l r h2
   obtain ⟨v,hv,hr,hk⟩:=loadA_sound hT ht hw h1
   refine ⟨v::us,?_,AVRs.cons hr h4,by simp only [AV.oks]; exact ⟨hk,h5⟩⟩
   rw [List.mapM_cons]
   simp only [Act.eval,Instr.loadAt,Sem.run_bind] at hv
   have hv':((asAddr (a.tmps.getD b undef)).run P w).andThen (fun a w'=>(loadVar t a).run P w')=.ok v w:=by
    generalize a.tmps.getD b undef=y at hv
    cases y with
    | pointer p=>cases p with
     | none=>simp [Instr.sureAddr] at hv
     | some q=>exact hv
    | _=>simp [Instr.sureAddr] at hv
   simp only [Sem.run_bind,hv',Result.andThen_ok,h3,Sem.run_pure]
  ·cases h
def vOf:List Value->Value
 | [x]=>x
 | l=>.tuple l.toArray
theorem oneOf_rel {xs:List AV} {vs:List Value} (h:AVRs β xs vs) (hk:AV.oks n xs):AVR β (oneOf xs) (vOf vs)/\(oneOf xs).ok n:=by
 have hl:=AVRs_length h
 unfold oneOf
 split
 ·rename_i x
  obtain ⟨u,us,rfl,h1,h2⟩:=h
  simp only [AVRs] at h2; subst h2
  simp only [AV.oks] at hk
  exact ⟨h1,hk.1⟩
 ·rename_i hne
  have hv:vOf vs=.tuple vs.toArray:=by
   unfold vOf
   split
   ·rename_i u
    exfalso
    cases xs with
    | nil=>simp at hl
    | cons y ys=>cases ys with
     | nil=>exact hne y rfl
     | cons z zs=>simp at hl
   ·rfl
  rw [hv]
  split
  ·rename_i r hr
   rw [plain_rel hr h]; simp only [AVR,AV.ok]; exact ⟨trivial,trivial⟩
  ·simp only [AVR,AV.ok]; exact ⟨⟨_,rfl,h⟩,hk⟩
theorem results_run {tt:Tab} (hT:TabOk P tt) {w0:Base} {w:World} {fn:Func} (ht:RelT ds β s.h.length s.t a) (hw:RelW w0 β s.h w) {xs:List AV} (h:resA std tt s fn.results.toList=some xs) :
  ∃ v,(results fn a.tmps).run P w=.ok v w/\AVR β (oneOf xs) v/\(oneOf xs).ok s.h.length:=by
 obtain ⟨vs,h1,h2,h3⟩:=results_sound hT ht hw fn.results.toList xs h
 obtain ⟨h4,h5⟩:=oneOf_rel h2 h3
 refine ⟨_,?_,h4,h5⟩
 unfold results
 rw [Sem.run_bind,Array.mapM_eq_mapM_toList,Sem.run_map]
 erw [h1]
 simp only [Result.andThen_ok,Sem.run_pure]
 congr 1
 match vs with
 | []=>rfl
 | [x]=>rfl
 | x::y::r=>rfl
def fnOk (ord : List (Nat × Ot)) (fn : Func) : Bool := (match fn.body with | some c => codeOk ord c | none => false) && !(fn.name == "runtime.NumGoroutine")
theorem enters_of {f:FuncId} {fn:Func} {ord:List (Nat × Ot)} (hf:P.funcs[f]?=some fn) (hok:fnOk ord fn=true) (args:Array Value) (w:World):(callFunc f args).run P w=.ok (.enter f args) w:=by
 simp only [fnOk,Bool.and_eq_true,Bool.not_eq_true'] at hok
 refine enters_ hf hok.2 ?_ args w
 cases e:fn.body with
 | none=>rw [e] at hok; simp at hok
 | some c=>rfl
/-- At the end the marks are come to. -/
theorem leaves_marks {fn:Func} {tmps:Array Value} {R:Ending->World->Prop} {w0:Base} {h:List Blk}:∀ (M:List Nat) (w:World),RelW (w0.add M) β h w->(∀ w',RelW w0 β h w'->∃ v,(results fn tmps).run P w'=.ok v w'/\R (.returned v) w')->LeavesInM (fen none) 0 P fn tmps R (M.map mark) .returning w
 | [],w,hw,hK=>hK w hw
 | g::M,w,hw,hK=>by
  refine ⟨(by intro e; cases e),.inl ⟨g,_,rfl,run_takeDeferred (hw.mks g (List.mem_cons_self ..)).2,?_⟩⟩
  exact leaves_marks M _ hw.taken hK
theorem runFn_sound {tt:Tab} (hT:TabOk P tt) (hm:P.follows .mixedOrders=true) {C:Hdl} (hC:C.ok P) {f:FuncId} {fn:Func} (hf:P.funcs[f]?=some fn) {g:Cfg} (hrd:g.rd=false) (hok:fnOk g.ord fn=true) {h:List Blk} {args:List AV} {R:AV->List Blk->Prop}
  (hr:runFn P std tt C g fn h args R):CallTo P h f args R:=by
 refine ⟨fun w0 β w vs hw hk hv=>⟨enters_of hf hok vs w,?_⟩⟩
 have hok':=hok
 simp only [fnOk,Bool.and_eq_true,Bool.not_eq_true'] at hok
 obtain ⟨hco,_⟩:=hok
 unfold runFn at hr
 split at hr
 ·rename_i c hb
  rw [hb] at hco
  have hl:=AVRs_length hv
  have ht:RelT (([]:List Nat).map mark) β h.length (args++List.replicate (fn.ntmps - args.length) (.v undef)) { tmps:=vs++Array.replicate (fn.ntmps - vs.size) undef,defers:=[] }:=by
   refine ⟨?_,rfl,oks_append hk (oks_of fun x hx=>by rw [(List.mem_replicate.1 hx).2]; simp only [AV.ok])⟩
   rw [Array.toList_append,Array.toList_replicate]
   refine hv.append ?_
   have e:vs.size=args.length:=by rw [<-Array.length_toList]; exact hl
   rw [e]
   have:=AVRs.vs (β:=β) (List.replicate (fn.ntmps - args.length) undef)
   rw [List.map_replicate] at this
   exact this
  have fin:∀ (a:Act) (w':World) (s:St) (β':Nat->Loc) (M:List Nat),RelT (M.map mark) β' s.h.length s.t a->RelW (w0.add M) β' s.h w'->Ext h.length β s.h β'->(match resA std tt s fn.results.toList with
    | some vs=>R (oneOf vs) s.h
    | none=>False)->LeavesInM (fen none) 0 P fn a.tmps (fun e w'=>∃ v x h' β',e=.returned v/\AVR β' x v/\x.ok h'.length/\RelW w0 β' h' w'/\Ext h.length β h' β'/\R x h') a.defers .returning w':=by
   intro a w' s β' M h1 h2 h3 h4
   split at h4
   ·rename_i xs hrs
    rw [h1.defers]
    refine leaves_marks M w' h2 (fun w'' hw''=>?_)
    obtain ⟨v,h5,h6,h7⟩:=results_run hT h1 hw'' hrs
    exact ⟨v,h5,v,_,_,β',rfl,h6,h7,hw'',h3,h4⟩
   ·exact h4.elim
  have goal:c.wpIn (fen none) 0 P (QQ w0 h.length β (fun x s=>match x with
    | .e _=>False
    | .g _=>False
    | _=>match resA std tt s fn.results.toList with
     | some vs=>R (oneOf vs) s.h
     | none=>False)) { tmps:=vs++Array.replicate (fn.ntmps - vs.size) undef,defers:=[] } w:=by
   split at hr
   ·rename_i c1 l r hsc
    obtain ⟨x,y,rfl,rfl,hf⟩:=scopeOf_some hsc
    simp only [codeOk,Bool.and_eq_true] at hco
    simp only [wpP] at hr
    refine wpIn_seq (wpIn_mono (wpP_sound (ro:=none) hT hm hC (fun _=>rfl) x w0 β _ _ β [] _ w hr hco.1 ht hw.nil ⟨Nat.le_refl _,fun _ _=>rfl⟩) (fun e a1 w1 hq=>?_))
    cases e with
    | normal=>
     obtain ⟨s1,β1,M1,h1,h2,h3,h4⟩:=hq
     refine wpIn_scope_re (l:=l) (rest:=.seq .skip r) rfl hf ?_
     refine wpIn_seq (wpIn_mono (wpP_sound (ro:=none) hT hm hC (fun _=>rfl) y w0 β _ _ β1 M1 _ w1 h4 hco.2.1 h1 h2 h3) (fun e a2 w2 hq=>?_))
     cases e with
     | normal=>
      obtain ⟨s2,β2,M2,k1,k2,k3,k4⟩:=hq
      refine wpIn_seq (wpIn_label ?_)
      exact k4.out (fun w0 β0 K s β M a w h ht hw hx=>wpP_sound (ro:=none) hT hm hC (fun _=>rfl) r w0 β0 K s β M a w h hco.2.2.2 ht hw hx) _ hf w0 β β2 M2 a2 w2 k1 k2 k3
     | exit id=>obtain ⟨s,β,M,h1,h2,h3,h4⟩:=hq; exact h4.elim
     | goto l=>obtain ⟨s,β,M,h1,h2,h3,h4⟩:=hq; exact h4.elim
     | ret=>obtain ⟨s,β,M,h1,h2,h3,h4⟩:=hq; exact h4.elim
     | _=>exact hq.elim
    | exit id=>obtain ⟨s,β,M,h1,h2,h3,h4⟩:=hq; exact h4.elim
    | goto l=>obtain ⟨s,β,M,h1,h2,h3,h4⟩:=hq; exact h4.elim
    | ret=>obtain ⟨s,β,M,h1,h2,h3,h4⟩:=hq; exact h4.elim
    | _=>exact hq.elim
   ·exact wpP_sound (ro:=none) hT hm hC (fun _=>rfl) c w0 β _ _ β [] _ w hr hco ht hw.nil ⟨Nat.le_refl _,fun _ _=>rfl⟩
  refine callsIn_wide.1 (callsIn_of_wp_marks (F:=fen none) (n:=0) hf hb trivial (wpIn_mono goal (fun e a w' hq=>?_)) rfl)
  cases e with
  | normal=>
   obtain ⟨s,β,M,h1,h2,h3,h4⟩:=hq
   exact fin a w' s β M h1 h2 h3 h4
  | exit id=>obtain ⟨s,β,M,h1,h2,h3,h4⟩:=hq; exact h4.elim
  | goto l=>obtain ⟨s,β,M,h1,h2,h3,h4⟩:=hq; exact h4.elim
  | ret=>
   obtain ⟨s,β,M,h1,h2,h3,h4⟩:=hq
   exact fin a w' s β M h1 h2 h3 h4
  | _=>exact hq.elim
 ·exact hr.elim
theorem putPs_rel:∀ {t:List AV} {us:List Value} {ps:List Tmp} {xs:List AV} {vs:List Value},AVRs β t us->AVRs β xs vs ->
  AVRs β (putPs t ps xs) ((ps.zip vs).foldl (fun (tm:List Value) (p:Tmp × Value)=>tm.set p.1 p.2) us)
 | t,us,[],xs,vs,h,hx=>by simpa [putPs] using h
 | t,us,p::ps,[],vs,h,hx=>by simp only [AVRs] at hx; subst hx; simpa [putPs] using h
 | t,us,p::ps,x::xs,vs,h,hx=>by
  obtain ⟨u,r,rfl,h1,h2⟩:=hx
  simp only [putPs,List.zip_cons_cons,List.foldl_cons]
  exact putPs_rel (h.set h1 p) h2
theorem putPs_ok:∀ {t:List AV} {ps:List Tmp} {xs:List AV},AV.oks n t->AV.oks n xs->AV.oks n (putPs t ps xs)
 | t,[],xs,h,hx=>by simpa [putPs] using h
 | t,p::ps,[],h,hx=>by simpa [putPs] using h
 | t,p::ps,x::xs,h,hx=>by
  simp only [AV.oks] at hx
  simp only [putPs]
  exact putPs_ok (oks_set h hx.1 p) hx.2
theorem fold_set (l:List (Tmp × Value)) (a:Array Value):(l.foldl (fun (tm:Array Value) (p:Tmp × Value)=>tm.setIfInBounds p.1 p.2) a).toList=l.foldl (fun (tm:List Value) (p:Tmp × Value)=>tm.set p.1 p.2) a.toList:=by
 induction l generalizing a with
 | nil=>rfl
 | cons x l ih=>simp only [List.foldl_cons]; rw [ih]; simp
theorem yieldP_sound {tt:Tab} (hT:TabOk P tt) (hm:P.follows .mixedOrders=true) {C:Hdl} (hC:C.ok P) {h:List Blk} {b:Nat} {args:List AV} {R:AV->List Blk->Prop}
  (hr:yieldP P std tt C h (.yl b::args) R):YieldTo P h b args R:=by
 refine ⟨fun ro w0 β w vs hw hok hargs=>?_⟩
 simp only [yieldP] at hr
 split at hr
 ·rename_i t ps c hb
  split at hr
  ·rename_i hlen
   have hlen':args.length=ps.length:=by simpa using hlen
   obtain ⟨r,hg,⟨hst,hpe⟩,htm,hps,has,hbo,hc1,hc2,hrd⟩:=hw.blk b _ hb
   have hblt:=(List.getElem?_eq_some_iff.1 hb).1
   have hsz:vs.size=r.params.size:=by rw [<-Array.length_toList,<-Array.length_toList,AVRs_length hargs,hps,hlen']
   refine ⟨_,_,_,_,run_yield hg hsz,roundIn_of_wpIn trivial ?_⟩
   have htmp:((r.params.zip vs).foldl (fun (tmps:Array Value) (x:Tmp × Value)=>tmps.setIfInBounds x.1 x.2) r.tmps).toList=(ps.zip vs.toList).foldl (fun (tm:List Value) (p:Tmp × Value)=>tm.set p.1 p.2) r.tmps.toList:=by
    rw [<-Array.foldl_toList,fold_set,Array.toList_zip,hps]
   have hok_t:AV.oks h.length t:=hw.okh _ (List.mem_of_getElem? hb)
   have ht:RelT (([]:List Nat).map mark) β h.length (putPs t ps args) { tmps:=(r.params.zip vs).foldl (fun (tmps:Array Value) (x:Tmp × Value)=>tmps.setIfInBounds x.1 x.2) r.tmps,defers:=[] }:=
    ⟨by rw [htmp]; exact putPs_rel htm hargs,rfl,putPs_ok hok_t hok⟩
   rw [has,hbo]
   refine wpIn_mono (wpP_sound (ro:=some (β b).g) hT hm hC (fun e=>by rw [hrd] at e; cases e) (c ()).1 w0 β _ _ β [] _ w hr hc1 ht hw.nil ⟨Nat.le_refl _,fun _ _=>rfl⟩) (fun e a1 w1 hq=>?_)
   cases e with
   | normal=>
    obtain ⟨s1,β1,M1,h1,h2,h3,h4⟩:=hq
    simp only at h4
    split at h4
    ·rename_i t' ps' c' hb1
     have hb1g:β1 b=β b:=h3.2 b hblt
     obtain ⟨r1,hg1,⟨hst1,hpe1⟩,_⟩:=h2.blk b _ hb1
     have hw1:=h2.setLp (st':=.busy) hb1 hg1 (r':={ r1 with state:=.busy }) rfl rfl rfl rfl rfl
     rw [hb1g] at hg1
     refine ⟨_,run_beginRound hg1 hst1,?_⟩
     rw [hb1g] at hw1
     have hlen1:(s1.h.set b (.lp .busy t' ps' c')).length=s1.h.length:=by simp
     refine wpIn_mono (wpP_sound (ro:=some (β b).g) hT hm hC (fun e=>by rw [hrd] at e; cases e) (c ()).2.1 w0 β _ _ β1 M1 _ _ h4 hc2 (by simp only [hlen1]; exact h1) hw1 ⟨by rw [hlen1]; exact h3.1,h3.2⟩) (fun e a2 w2 hq=>?_)
     have fin:∀ (s2:St) (β2:Nat->Loc) (M2:List Nat) (st:LS) (jump:Option Code) (bv:Bool),jump.isNone=bv->RelW (w0.add M2) β2 s2.h w2->Ext h.length β s2.h β2->(∀ r2:Loop,LSR st { r2 with state:=if jump.isNone then .ready else .done,pending:=jump }) ->
       ∀ {t2 ps2 c2},s2.h[b]?=some (.lp .busy t2 ps2 c2)->R (.c (.bool bv)) (s2.h.set b (.lp st t2 ps2 c2)) ->
       ∃ v w',(Instr.endRound (β b).g jump).run P w2=.ok v w'/\∃ v' x h' β',Ending.returned v=.returned v'/\AVR β' x v'/\x.ok h'.length/\RelW w0 β' h' w'/\Ext h.length β h' β'/\R x h':=by
      intro s2 β2 M2 st jump bv hj k2 k3 hls t2 ps2 c2 hb2 hR
      have hb2g:β2 b=β b:=k3.2 b hblt
      obtain ⟨r2,hg2,_⟩:=k2.blk b _ hb2
      have hw2:=k2.setLp (st':=st) hb2 hg2 (r':={ r2 with state:=if jump.isNone then .ready else .done,pending:=jump }) (hls r2) rfl rfl rfl rfl
      rw [hb2g] at hg2 hw2
      refine ⟨_,_,run_endRound jump hg2,.bool jump.isNone,.c (.bool bv),_,β2,rfl,?_,by simp only [AV.ok],hw2.forget,⟨by rw [List.length_set]; exact k3.1,k3.2⟩,hR⟩
      simp only [AVR]; rw [hj]
     cases e with
     | normal=>
      obtain ⟨s2,β2,M2,k1,k2,k3,k4⟩:=hq
      simp only at k4
      split at k4
      ·rename_i t2 ps2 c2 hb2
       exact fin s2 β2 M2 .ready none true rfl k2 k3 (fun _=>⟨rfl,rfl⟩) hb2 k4
      ·exact k4.elim
     | ret=>
      obtain ⟨s2,β2,M2,k1,k2,k3,k4⟩:=hq
      simp only at k4
      split at k4
      ·rename_i t2 ps2 c2 hb2
       exact fin s2 β2 M2 (.done .r) (some .ret) false rfl k2 k3 (fun _=>⟨rfl,rfl⟩) hb2 k4
      ·exact k4.elim
     | exit id=>
      obtain ⟨s2,β2,M2,k1,k2,k3,k4⟩:=hq
      simp only at k4
      split at k4
      ·rename_i t2 ps2 c2 hb2
       exact fin s2 β2 M2 (.done (.e id)) (some (.exit id)) false rfl k2 k3 (fun _=>⟨rfl,rfl⟩) hb2 k4
      ·exact k4.elim
     | goto l=>
      obtain ⟨s2,β2,M2,k1,k2,k3,k4⟩:=hq
      simp only at k4
      split at k4<;>exact k4.elim
     | _=>exact hq.elim
    ·exact h4.elim
   | exit id=>obtain ⟨s1,β1,M1,h1,h2,h3,h4⟩:=hq; exact h4.elim
   | ret=>obtain ⟨s1,β1,M1,h1,h2,h3,h4⟩:=hq; exact h4.elim
   | goto l=>obtain ⟨s1,β1,M1,h1,h2,h3,h4⟩:=hq; exact h4.elim
   | _=>exact hq.elim
  ·exact hr.elim
 ·exact hr.elim
/-- What is walked into is this program's. -/
def InlOk (P:Program) (inl:List (FuncId × Func × Cfg)):Prop:=∀ e ∈ inl,P.funcs[e.1]?=some e.2.1/\fnOk e.2.2.ord e.2.1=true/\e.2.2.rd=false
theorem InlOk.nil:InlOk P []:=fun _ h=>by cases h
theorem InlOk.cons {f:FuncId} {fn:Func} {g:Cfg} {l:List (FuncId × Func × Cfg)} (hf:P.funcs[f]?=some fn) (hok:fnOk g.ord fn=true) (hl:InlOk P l) (hrd:g.rd=false:=by rfl):InlOk P ((f,fn,g)::l):=by
 intro e he
 rcases List.mem_cons.1 he with rfl | he
 ·exact ⟨hf,hok,hrd⟩
 ·exact hl e he
theorem calls_ok {tt:Tab} (hT:TabOk P tt) (hm:P.follows .mixedOrders=true) {inl:List (FuncId × Func × Cfg)} (hi:InlOk P inl):∀ d,Hdl.ok P (calls P std tt inl d)
 | 0=>by
  refine ⟨fun h f args K hk hne=>?_,fun h b args K hk=>?_⟩
  ·simp only [calls] at hk
   rw [if_neg (by simpa using hne)] at hk
   exact hk
  ·simp only [calls] at hk
   rw [if_pos (by simp)] at hk
   exact hk.elim
 | d+1=>by
  refine ⟨fun h f args K hk hne=>?_,fun h b args K hk=>?_⟩
  ·simp only [calls] at hk
   rw [if_neg (by simpa using hne)] at hk
   split at hk
   ·rename_i f' fn g he
    have h1:=List.find?_some he
    have h2:=hi _ (List.mem_of_find?_eq_some he)
    have h3:f'=f:=by simpa using h1
    subst h3
    exact runFn_sound hT hm (calls_ok hT hm hi d) h2.1 h2.2.2 h2.2.1 hk
   ·exact hk
  ·simp only [calls] at hk
   rw [if_pos (by simp)] at hk
   exact yieldP_sound hT hm (calls_ok hT hm hi d) hk
end
end Go.Proofs.YtkipmmiiackdaaaGreat.Sx
