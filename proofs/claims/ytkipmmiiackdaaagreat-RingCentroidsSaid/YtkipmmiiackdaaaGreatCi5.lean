/- Part 5 of what the statement needs: an executor of Go texts, arithmetic, and contracts of the functions that are called. -/
import Derived.Test.YtkipmmiiackdaaaGreatCi4
import Derived.Maps.AppendAt
import Derived.Laws.BytesString
import Derived.Laws.MakeOwn
set_option linter.unusedSimpArgs false
set_option linter.unusedVariables false
namespace Go.Proofs.YtkipmmiiackdaaaGreat.Sx
open Env (std)
open Go.RowKit Go.Proofs.YtkipmmiiackdaaaGreatW.PrintLast Go.Proofs.YtkipmmiiackdaaaGreatW.PrintWords
section
variable {P:Program} {β:Nat->Loc} {n:Nat} {s:St} {a:Act} {ds:List Deferred}
theorem cell_own {w:World} {g o:Nat} {cs:Array Value} {ty:TypeId} (h:w.heap[g]?=some (.cells cs ty (0,0))):w.cell? ⟨g,o,none⟩=cs[o]?:=by
 unfold World.cell?; rw [h]; rfl
theorem frozen_own {w:World} {g o:Nat} {cs:Array Value} {ty:TypeId} (h:w.heap[g]?=some (.cells cs ty (0,0))):w.frozen? ⟨g,o,none⟩=false:=by
 unfold World.frozen?; rw [h]; simp
theorem load_agg {t:TypeId} {ti:TI} (hq:TyOk P t ti) (hk:isAggB ti.kind=true) {b:Addr} {l:List Value} (hl:l.length=ti.sz) {w:World} (h:∀ j v,l[j]?=some v->w.cell? (b.add j)=some v) :
  (Instr.loadAt t (.pointer (some b))).run P w=.ok (.agg l.toArray) w:=by
 unfold Instr.loadAt Instr.sureAddr loadVar
 simp only [Sem.run_bind,Sem.run_pure,Result.andThen_ok,run_isAgg hq,hk,if_true,run_size hq]
 rw [<-hl,run_loadCells_list w b l h]
 rfl
theorem load_one {t:TypeId} {ti:TI} (hq:TyOk P t ti) (hk:isAggB ti.kind=false) {b:Addr} {v:Value} {w:World} (h:w.cell? b=some v) :
  (Instr.loadAt t (.pointer (some b))).run P w=.ok v w:=by
 unfold Instr.loadAt Instr.sureAddr loadVar
 simp only [Sem.run_bind,Sem.run_pure,Result.andThen_ok,run_isAgg hq,hk,Bool.false_eq_true,if_false]
 simp [h]
theorem flat_length {c:Cd} (hc:c.Ok) (xs:List c.α):(xs.flatMap c.enc).length=xs.length*c.sz:=by
 induction xs with
 | nil=>simp
 | cons x xs ih=>simp [hc.len,ih,Nat.add_mul,Nat.add_comm]
theorem flat_get {c:Cd} (hc:c.Ok):∀ {xs:List c.α} {i:Nat} {x:c.α},xs[i]?=some x->∀ {j:Nat} {u:Value},(c.enc x)[j]?=some u->(xs.flatMap c.enc)[i*c.sz+j]?=some u
 | [],i,x,h,j,u,hu=>by simp at h
 | y::xs,i,x,h,j,u,hu=>by
  have hj:j < c.sz:=by rw [<-hc.len x]; exact (List.getElem?_eq_some_iff.1 hu).1
  cases i with
  | zero=>
   simp at h; subst h
   rw [List.flatMap_cons,List.getElem?_append]
   rw [if_pos (by rw [hc.len]; omega)]
   simpa using hu
  | succ i=>
   simp at h
   rw [List.flatMap_cons,List.getElem?_append]
   rw [if_neg (by rw [hc.len,Nat.succ_mul]; omega),hc.len]
   have:(i+1)*c.sz+j - c.sz=i*c.sz+j:=by rw [Nat.succ_mul]; omega
   rw [this]
   exact flat_get hc h hu
theorem ownsRow_reads {w:World} {e:TypeId} {c:Cd} (hc:c.Ok) {d:Option Addr} {cap:Nat} {xs:List c.α} (h:w.ownsRow 0 e c.sz (.slice d xs.length cap) xs.length (xs.flatMap c.enc)):Reads w d c xs:=by
 intro i x hx
 obtain ⟨d',hd⟩:=(ownsRow_some h).1 (by have:=(List.getElem?_eq_some_iff.1 hx).1; omega)
 subst hd
 refine ⟨d',rfl,fun j u hu=>?_⟩
 have hcl:=h.cells (g:=d'.block) rfl _ _ (flat_get hc hx hu)
 rcases h.2 with ⟨h1,_⟩ | ⟨g,cap',cur,h1,_⟩
 ·cases h1
 ·injection h1 with h1 _ _; injection h1 with h1
  subst h1
  exact hcl
theorem RelW.reads {w0:Base} {w:World} {h:List Blk} (hw:RelW w0 β h w) {b:Nat} {o:Bool} {e:TypeId} {c:Cd} {xs:List c.α} (hb:h[b]?=some (.row o e c xs)):Reads w (β b).a c xs:=by
 have hr:=hw.blk b _ hb
 cases o with
 | true=>
  obtain ⟨h1,h2,h3,h4⟩:=hr
  rw [h3] at h4
  exact ownsRow_reads h1 h4
 | false=>exact hr.2.2.2.2
theorem loadA_sound {tt:Tab} (hT:TabOk P tt) {w0:Base} {w:World} {s:St} {a:Act} (ht:RelT ds β n s.t a) (hw:RelW w0 β s.h w) {t:TypeId} {x:Operand} {y:AV}
  (h:loadA std tt s t x=some y):∃ v,(Instr.loadAt t (a.eval x)).run P w=.ok v w/\AVR β y v/\y.ok s.h.length:=by
 unfold loadA at h
 split at h
 ·rename_i hh
  have hq:=Tab.at_ok hT hh
  split at h
  ·rename_i b o he
   split at h
   ·rename_i cs ty hb
    obtain ⟨h1,h2⟩:=ev_p ht he
    obtain ⟨vs,hg,hvs⟩:=hw.blk b _ hb
    have hok:AV.oks s.h.length cs:=hw.okh _ (List.mem_of_getElem? hb)
    split at h
    ·rename_i hk
     split at h
     ·rename_i hl
      simp only [Bool.and_eq_true,beq_iff_eq] at hl
      injection h with h; subst h
      have hr:=(hvs.drop o).take (tt.at t).sz
      refine ⟨_,?_,mkAgg_rel hr,mkAgg_ok (oks_take (oks_drop hok o) _)⟩
      rw [h1]
      refine load_agg hq hk (by rw [AVRs_length hr]; exact hl.1) (fun j v hj=>?_)
      rw [add_own,cell_own hg]
      rw [List.getElem?_take] at hj
      split at hj
      ·rw [List.getElem?_drop,Array.getElem?_toList] at hj; exact hj
      ·cases hj
     ·cases h
    ·rename_i hk
     have hk':isAggB (tt.at t).kind=false:=by simpa using hk
     have h':cs[o]?=some y:=by
      split at h
      ·cases h
      ·exact h
     obtain ⟨v,hv,hvr⟩:=AVRs_get hvs h'
     refine ⟨v,?_,hvr,oks_mem hok y (List.mem_of_getElem? h')⟩
     rw [h1]
     refine load_one hq hk' ?_
     rw [cell_own hg]
     rw [Array.getElem?_toList] at hv; exact hv
   ·cases h
  ·rename_i b i o he
   split at h
   ·rename_i ow e c xs hb
    obtain ⟨⟨h1,h2,d,h3,h4⟩,h5⟩:=ev_e ht he
    have hrb:=hw.hb b _ _ _ _ hb
    have hlt:i.toNat < xs.length:=by rw [<-hrb.n]; omega
    have hget:xs[i.toNat]?=some (std.get c.α xs i c.z):=by
     simp only [std,List.getD_eq_getElem?_getD,List.getElem?_eq_getElem hlt,Option.getD_some]
    obtain ⟨d',hd',hcl⟩:=hw.reads hb i.toNat _ hget
    rw [h3] at hd'; injection hd' with hd'; subst hd'
    rw [hrb.z] at h4
    split at h
    ·rename_i hk
     split at h
     ·rename_i hl
      injection h with h; subst h
      refine ⟨_,?_,avr_v,by simp only [AV.ok]⟩
      rw [h4]
      refine load_agg hq hk (by simpa using hl) (fun j v hj=>?_)
      rw [List.getElem?_take] at hj
      split at hj
      ·rw [List.getElem?_drop] at hj
       rw [add_add,Nat.add_assoc]
       exact hcl _ _ hj
      ·cases hj
     ·cases h
    ·rename_i hk
     have hk':isAggB (tt.at t).kind=false:=by simpa using hk
     split at h
     ·rename_i u hu
      injection h with h; subst h
      refine ⟨u,?_,avr_v,by simp only [AV.ok]⟩
      rw [h4]
      exact load_one hq hk' (hcl _ _ hu)
     ·cases h
   ·cases h
  ·cases h
 ·cases h
theorem execLoad {o:Oper} {t:TypeId} {x:Operand} {v:Value} {w:World} (ho:o.op=.load t x) (h:(Instr.loadAt t (a.eval x)).run P w=.ok v w):(execOp a.eval o).run P w=.ok (.value v) w:=by
 unfold execOp; rw [ho]; exact run_value h
theorem put_toList (a:Act) (d:Option Tmp) (y:Value):(a.put d y).tmps.toList=match d with | some i=>a.tmps.toList.set i y | none=>a.tmps.toList:=by
 cases d with
 | none=>rfl
 | some i=>simp [Act.put]
theorem put_defers (a:Act) (d:Option Tmp) (y:Value):(a.put d y).defers=a.defers:=by cases d<;>rfl
theorem oks_set {l:List AV} (h:AV.oks n l) {x:AV} (hx:x.ok n) (i:Nat):AV.oks n (l.set i x):=
 oks_of fun y hy=>(List.mem_or_eq_of_mem_set hy).elim (oks_mem h y) (fun e=>by rw [e]; exact hx)
theorem RelT.put {s:St} {a:Act} (ht:RelT ds β n s.t a) {x:AV} {y:Value} (hx:AVR β x y) (hk:x.ok n) (d:Option Tmp):RelT ds β n (s.put d x).t (a.put d y):=by
 refine ⟨?_,by rw [put_defers]; exact ht.defers,?_⟩
 ·rw [put_toList]
  cases d with
  | none=>exact ht.rel
  | some i=>exact ht.rel.set hx i
 ·cases d with
  | none=>exact ht.ok
  | some i=>exact oks_set ht.ok hk i
theorem put_h (s:St) (d:Option Tmp) (x:AV):(s.put d x).h=s.h:=by unfold St.put; cases d<;>rfl
/-- The numbering, one block more. -/
def grow (β:Nat->Loc) (n:Nat) (l:Loc):Nat->Loc:=fun i=>if i=n then l else β i
theorem grow_lt {n i:Nat} {l:Loc} (h:i < n):grow β n l i=β i:=by unfold grow; rw [if_neg (by omega)]
theorem grow_at {n:Nat} {l:Loc}:grow β n l n=l:=by unfold grow; rw [if_pos rfl]
theorem RelT.grow {t:List AV} {a:Act} (ht:RelT ds β n t a) (l:Loc):RelT ds (grow β n l) (n+1) t a:=
 ⟨AVRs_congr ht.ok (fun _ h=>grow_lt h) ht.rel,ht.defers,AV.oks_mono ht.ok (by omega)⟩
theorem heap_push_lt {w:World} {o:Obj} {k:Nat} (h:k < w.heap.size):({ w with heap:=w.heap.push o }:World).heap[k]?=w.heap[k]?:=by
 show (w.heap.push o)[k]?=_
 rw [Array.getElem?_push,if_neg (by omega)]
theorem heap_push_at {w:World} {o:Obj}:({ w with heap:=w.heap.push o }:World).heap[w.heap.size]?=some o:=by
 show (w.heap.push o)[_]?=_
 rw [Array.getElem?_push,if_pos rfl]
theorem okh_mono {b:Blk} {n m:Nat} (h:b.okh n) (hm:n<=m):b.okh m:=by
 cases b with
 | cells cs ty=>exact AV.oks_mono h hm
 | lp st t ps c=>exact AV.oks_mono h hm
 | _=>trivial
/-- What may be written is no block for deferred calls. -/
theorem occ_no {w:World} {l:Loc} {b:Blk} {g:Nat} {x:Option (List Deferred)} (h:BlkR β l w b) (ho:b.occ l=some g):w.heap[g]? ≠ some (.deferred x):=by
 intro e0
 cases b with
 | dead=>simp [Blk.occ] at ho
 | cells cs ty=>
  obtain ⟨vs,hg,_⟩:=h
  simp only [Blk.occ] at ho; injection ho with ho; subst ho
  rw [hg] at e0; cases e0
 | lp st t ps c=>
  obtain ⟨r,hg,_⟩:=h
  simp only [Blk.occ] at ho; injection ho with ho; subst ho
  rw [hg] at e0; cases e0
 | row o e c xs=>
  cases o with
  | false=>simp [Blk.occ] at ho
  | true=>
   obtain ⟨_,_,_,h4⟩:=h
   simp only [Blk.occ] at ho
   rcases h4.2 with ⟨h5,_⟩ | ⟨g',cap,cur,h5,h6,h7,h8⟩
   ·injection h5 with h5 _ _; rw [h5] at ho; cases ho
   ·injection h5 with h5 _ _
    rw [h5] at ho; simp only [Option.map_some] at ho; injection ho with ho; subst ho
    rw [h7] at e0; cases e0
theorem occ_lt {w:World} {l:Loc} {b:Blk} {g:Nat} (h:BlkR β l w b) (ho:b.occ l=some g):g < w.heap.size:=by
 cases b with
 | dead=>simp [Blk.occ] at ho
 | cells cs ty=>
  obtain ⟨vs,hg,_⟩:=h
  simp only [Blk.occ] at ho; injection ho with ho; subst ho
  exact (Array.getElem?_eq_some_iff.1 hg).1
 | lp st t ps c=>
  obtain ⟨r,hg,_⟩:=h
  simp only [Blk.occ] at ho; injection ho with ho; subst ho
  exact (Array.getElem?_eq_some_iff.1 hg).1
 | row o e c xs=>
  cases o with
  | false=>simp [Blk.occ] at ho
  | true=>
   obtain ⟨_,_,_,h4⟩:=h
   simp only [Blk.occ] at ho
   cases hd:l.a with
   | none=>rw [hd] at ho; simp at ho
   | some d=>
    rw [hd] at ho h4; simp only [Option.map_some] at ho; injection ho with ho; subst ho
    exact (h4.lt _ rfl).2
theorem reads_lt {w:World} {d:Option Addr} {c:Cd} {xs:List c.α} (hc:c.Ok) (h:Reads w d c xs) (hx:xs ≠ []):∀ b,d=some b->b.block < w.heap.size:=by
 intro b hb
 have h0:0 < xs.length:=List.length_pos_iff.2 hx
 obtain ⟨b',hb',hcl⟩:=h 0 xs[0] (List.getElem?_eq_getElem h0)
 rw [hb] at hb'; injection hb' with hb'; subst hb'
 have hl:0 < (c.enc xs[0]).length:=by rw [hc.len]; exact hc.pos
 have:=hcl 0 _ (List.getElem?_eq_getElem hl)
 have:=World.block_lt_of_cell? w _ this
 simpa [Addr.add] using this
/-- What lies where nothing was written still holds. -/
theorem BlkR.kept {w w':World} {l:Loc} {b:Blk} {n:Nat} {β':Nat->Loc} (h:BlkR β l w b) (hk:b.okh n) (hb:∀ i,i < n->β' i=β i)
  (ho:∀ g,b.occ l=some g->w'.heap[g]?=w.heap[g]?) (hr:∀ e c xs,b=.row false e c xs->xs ≠ []->∀ d,l.a=some d->w'.heap[d.block]?=w.heap[d.block]?):BlkR β' l w' b:=by
 cases b with
 | dead=>trivial
 | cells cs ty=>
  obtain ⟨vs,hg,hv⟩:=h
  exact ⟨vs,by rw [ho _ rfl]; exact hg,AVRs_congr hk hb hv⟩
 | lp st t ps c=>
  obtain ⟨r,hg,h1,hv,h2⟩:=h
  exact ⟨r,by rw [ho _ rfl]; exact hg,h1,AVRs_congr hk hb hv,h2⟩
 | row o e c xs=>
  cases o with
  | true=>
   obtain ⟨h1,h2,h3,h4⟩:=h
   refine ⟨h1,h2,h3,h4.1,?_⟩
   rcases h4.2 with h5 | ⟨g,cap,cur,h5,h6,h7,h8⟩
   ·exact .inl h5
   ·refine .inr ⟨g,cap,cur,h5,h6,?_,h8⟩
    rw [ho g]
    ·exact h7
    ·injection h5 with h5 _ _
     simp [Blk.occ,h5]
  | false=>
   obtain ⟨h1,h2,h3,h4,h5⟩:=h
   refine ⟨h1,h2,h3,h4,fun i x hx=>?_⟩
   have hne:xs ≠ []:=by rintro rfl; simp at hx
   obtain ⟨d,hd,hcl⟩:=h5 i x hx
   refine ⟨d,hd,fun j u hu=>?_⟩
   rw [<-hcl j u hu]
   refine World.cell?_of_block (w:=w) ?_
   have:(d.add (i*c.sz+j)).block=d.block:=by unfold Addr.add; split<;>rfl
   rw [this]
   exact hr e c xs rfl hne d hd
theorem RelW.occ_lt {w0:Base} {w:World} {h:List Blk} (hw:RelW w0 β h w) {i:Nat} {b:Blk} (hi:h[i]?=some b) {g:Nat} (ho:b.occ (β i)=some g):g < w.heap.size:=Sx.occ_lt (hw.blk i b hi) ho
theorem RelW.ro_lt {w0:Base} {w:World} {h:List Blk} (hw:RelW w0 β h w) {i:Nat} {e:TypeId} {c:Cd} {xs:List c.α} (hi:h[i]?=some (.row false e c xs)) (hx:xs ≠ []) {d:Addr} (hd:(β i).a=some d):d.block < w.heap.size:=
 reads_lt (hw.hb i _ _ _ _ hi).ok (hw.reads hi) hx d hd
theorem RelW.mk_lt {w0:Base} {w:World} {h:List Blk} (hw:RelW w0 β h w) {g:Nat} (hg:g ∈ w0.M):g < w.heap.size:=(Array.getElem?_eq_some_iff.1 (hw.mks g hg).2).1
theorem RelW.mk_ne {w0:Base} {w:World} {h:List Blk} (hw:RelW w0 β h w) {g:Nat} (hg:g ∈ w0.M) {i:Nat} {b:Blk} (hi:h[i]?=some b) {k:Nat} (ho:b.occ (β i)=some k):g ≠ k:=by
 rintro rfl; exact occ_no (hw.blk i b hi) ho (hw.mks g hg).2
/-- A world that goes on, all blocks as they were. -/
theorem RelW.step {w0:Base} {w w':World} {h:List Blk} (hw:RelW w0 β h w) (hb:Below w.heap.size w w'):RelW w0 β h w':=by
 refine ⟨hw.below.trans (hb.mono hw.below.size),fun i b hi=>?_,hw.mine,hw.inj,hw.ro,hw.okh,fun g hg=>⟨(hw.mks g hg).1,by rw [hb.block g (hw.mk_lt hg)]; exact (hw.mks g hg).2⟩,hw.nd⟩
 refine (hw.blk i b hi).kept (hw.okh b (List.mem_of_getElem? hi)) (fun _ _=>rfl) (fun g hg=>hb.block g (hw.occ_lt hi hg)) (fun e c xs he hx d hd=>?_)
 subst he
 exact hb.block _ (hw.ro_lt hi hx hd)
theorem RelW.drew {w0:Base} {w:World} {h:List Blk} (hw:RelW w0 β h w):RelW w0 β h { w with drawn:=w.drawn+1 }:=
 hw.step ⟨rfl,rfl,rfl,Nat.le_refl _,fun _ _=>rfl⟩
/-- A block more. -/
theorem RelW.add {w0:Base} {w:World} {h:List Blk} (hw:RelW w0 β h w) {b:Blk} {l:Loc} (hb:BlkR (grow β h.length l) l w b) (hok:b.okh (h.length+1))
  (hm:∀ g,b.occ l=some g->w0.heap.size<=g/\(∀ (i:Nat) c,h[i]?=some c->c.occ (β i) ≠ some g)/\(∀ (i:Nat) e c xs,h[i]?=some (.row false e c xs)->xs ≠ []->∀ d,(β i).a=some d->d.block ≠ g))
  (hr:∀ e c xs,b=.row false e c xs->xs ≠ []->∀ d,l.a=some d->∀ (i:Nat) c,h[i]?=some c->c.occ (β i) ≠ some d.block) :
  RelW w0 (grow β h.length l) (h++[b]) w:=by
 have hget:∀ (i:Nat) c,(h++[b])[i]?=some c->(h[i]?=some c/\i < h.length)\/(i=h.length/\c=b):=by
  intro i c hi
  rw [List.getElem?_append] at hi
  split at hi
  ·rename_i hlt; exact .inl ⟨hi,hlt⟩
  ·rename_i hge
   have:=(List.getElem?_eq_some_iff.1 hi).1
   simp at this
   have e:i=h.length:=by omega
   subst e
   simp at hi
   exact .inr ⟨rfl,hi.symm⟩
 refine ⟨hw.below,fun i c hi=>?_,fun i c g hi hg=>?_,fun i j bi bj g hi hj h1 h2=>?_,fun i j e c xs bj g hi hx hj h2 d hd=>?_,fun c hc=>?_,hw.mks,hw.nd⟩
 ·rcases hget i c hi with ⟨h1,hlt⟩ | ⟨rfl,rfl⟩
  ·rw [grow_lt hlt]
   exact (hw.blk i c h1).kept (hw.okh c (List.mem_of_getElem? h1)) (fun _ h=>grow_lt h) (fun _ _=>rfl) (fun _ _ _ _ _ _ _=>rfl)
  ·rw [grow_at]; exact hb
 ·rcases hget i c hi with ⟨h1,hlt⟩ | ⟨rfl,rfl⟩
  ·rw [grow_lt hlt] at hg; exact hw.mine i c g h1 hg
  ·rw [grow_at] at hg; exact (hm g hg).1
 ·rcases hget i bi hi with ⟨h3,hlt⟩ | ⟨rfl,rfl⟩<;>rcases hget j bj hj with ⟨h4,hlt'⟩ | ⟨rfl,rfl⟩
  ·rw [grow_lt hlt] at h1; rw [grow_lt hlt'] at h2; exact hw.inj i j bi bj g h3 h4 h1 h2
  ·rw [grow_lt hlt] at h1; rw [grow_at] at h2; exact absurd h1 ((hm g h2).2.1 i bi h3)
  ·rw [grow_at] at h1; rw [grow_lt hlt'] at h2; exact absurd h2 ((hm g h1).2.1 j bj h4)
  ·rfl
 ·rcases hget i _ hi with ⟨h3,hlt⟩ | ⟨rfl,e1⟩<;>rcases hget j bj hj with ⟨h4,hlt'⟩ | ⟨rfl,rfl⟩
  ·rw [grow_lt hlt'] at h2; rw [grow_lt hlt] at hd; exact hw.ro i j e c xs bj g h3 hx h4 h2 d hd
  ·rw [grow_at] at h2; rw [grow_lt hlt] at hd; exact (hm g h2).2.2 i e c xs h3 hx d hd
  ·rw [grow_lt hlt'] at h2; rw [grow_at] at hd
   intro e2
   exact hr e c xs e1.symm hx d hd j bj h4 (by rw [h2,e2])
  ·subst e1; simp [Blk.occ] at h2
 ·simp only [List.length_append,List.length_cons,List.length_nil]
  rcases List.mem_append.1 hc with hc | hc
  ·exact okh_mono (hw.okh c hc) (by omega)
  ·simp at hc; subst hc; exact hok
theorem below_push {w0 w:World} {o:Obj} (h:w0.heap.size<=w.heap.size):Below w.heap.size w { w with heap:=w.heap.push o }:=
 ⟨rfl,rfl,rfl,by simp,fun k hk=>heap_push_lt hk⟩
/-- A new block of cells. -/
theorem RelW.new {w0:Base} {w:World} {h:List Blk} (hw:RelW w0 β h w) {cs:List AV} {ty:TypeId} {vs:Array Value} (hr:AVRs β cs vs.toList) (hok:AV.oks h.length cs) (l:Loc) (hl:l.g=w.heap.size) :
  RelW w0 (grow β h.length l) (h++[.cells cs ty]) { w with heap:=w.heap.push (.cells vs ty) }:=by
 have hle:=hw.below.size
 have hw':RelW w0 β h { w with heap:=w.heap.push (.cells vs ty) }:=hw.step ⟨rfl,rfl,rfl,by simp,fun k hk=>heap_push_lt hk⟩
 refine hw'.add ⟨vs,by rw [hl]; exact heap_push_at,AVRs_congr hok (fun _ h=>grow_lt h) hr⟩ (AV.oks_mono hok (by omega)) (fun g hg=>?_) (fun _ _ _ e=>by cases e)
 simp only [Blk.occ] at hg; injection hg with hg; subst hg
 refine ⟨by omega,fun i c hi ho=>?_,fun i e c xs hi hx d hd e2=>?_⟩
 ·have:=hw.occ_lt hi ho; omega
 ·have:=hw.ro_lt hi hx hd; omega
/-- A new row of its own, in a world of which it is told. -/
theorem RelW.newRow {w0:Base} {w w':World} {h:List Blk} (hw:RelW w0 β h w) {e:TypeId} {c:Cd} (hc:c.Ok) {xs:List c.α} {l:Loc} (hz:l.z=c.sz) (hn:l.n=xs.length) (ho:w'.ownsRow w.heap.size e c.sz (.slice l.a l.n l.cap) l.n (xs.flatMap c.enc)) (hb:Below w.heap.size w w') :
  RelW w0 (grow β h.length l) (h++[.row true e c xs]) w':=by
 have hle:=hw.below.size
 have hw':=hw.step hb
 have ho':w'.ownsRow 0 e c.sz (.slice l.a l.n l.cap) l.n (xs.flatMap c.enc):=by
  refine ⟨ho.1,?_⟩
  rcases ho.2 with h1 | ⟨g,cap,cur,h1,_,h2⟩
  ·exact .inl h1
  ·exact .inr ⟨g,cap,cur,h1,Nat.zero_le _,h2⟩
 refine hw'.add ⟨hc,hz,hn,ho'⟩ trivial (fun g hg=>?_) (fun _ _ _ e=>by cases e)
 have hge:w.heap.size<=g:=by
  simp only [Blk.occ] at hg
  cases hd:l.a with
  | none=>rw [hd] at hg; simp at hg
  | some d=>
   rw [hd] at hg ho
   simp only [Option.map_some] at hg; injection hg with hg; subst hg
   exact (ho.lt _ rfl).1
 refine ⟨by omega,fun i c hi ho=>?_,fun i e c xs hi hx d hd e2=>?_⟩
 ·have:=hw.occ_lt hi ho; omega
 ·have:=hw.ro_lt hi hx hd; omega
/-- A block of its own changes. -/
theorem RelW.change {w0:Base} {w w':World} {h:List Blk} (hw:RelW w0 β h w) {b:Nat} {blk blk':Blk} (hb:h[b]?=some blk) (hok:blk'.okh h.length) {g:Nat} (ho:blk.occ (β b)=some g) (hoc:blk'.occ (β b)=some g) (hr:BlkR β (β b) w' blk')
  (hk:∀ k,k ≠ g->w'.heap[k]?=w.heap[k]?) (hz:w.heap.size<=w'.heap.size) (h5:w'.os=w.os) (h6:w'.tape=w.tape) (h7:w'.output=w.output):RelW w0 β (h.set b blk') w':=by
 have hblt:=(List.getElem?_eq_some_iff.1 hb).1
 have hge:=hw.mine b blk g hb ho
 have hget:∀ (i:Nat) c,(h.set b blk')[i]?=some c->(i=b/\c=blk')\/(i ≠ b/\h[i]?=some c):=by
  intro i c hi
  rw [List.getElem?_set] at hi
  split at hi
  ·rename_i e
   (try rw [if_pos hblt] at hi)
   injection hi with hi; exact .inl ⟨e.symm,hi.symm⟩
  ·rename_i e; exact .inr ⟨fun e'=>e e'.symm,hi⟩
 have nro:∀ e c xs,blk' ≠ .row false e c xs:=by
  intro e c xs e1; subst e1; simp [Blk.occ] at hoc
 refine ⟨hw.below.trans ⟨h5,h6,h7,hz,fun k hkk=>hk k (by omega)⟩,fun i c hi=>?_,fun i c g' hi hg=>?_,fun i j bi bj g' hi hj h1 h2=>?_,fun i j e c xs bj g' hi hx hj h2 d hd=>?_,fun c hc=>?_,fun g' hg'=>⟨(hw.mks g' hg').1,by rw [hk g' (hw.mk_ne hg' hb ho)]; exact (hw.mks g' hg').2⟩,hw.nd⟩
 ·rcases hget i c hi with ⟨rfl,rfl⟩ | ⟨hne,hi⟩
  ·exact hr
  ·refine (hw.blk i c hi).kept (hw.okh c (List.mem_of_getElem? hi)) (fun _ _=>rfl) (fun g' hg'=>hk g' ?_) (fun e c' xs he hx d hd=>hk _ ?_)
   ·rintro rfl; exact hne (hw.inj i b c blk g' hi hb hg' ho)
   ·subst he; exact hw.ro i b e c' xs blk g hi hx hb ho d hd
 ·rcases hget i c hi with ⟨rfl,rfl⟩ | ⟨hne,hi⟩
  ·rw [hoc] at hg; injection hg with hg; subst hg; exact hge
  ·exact hw.mine i c g' hi hg
 ·rcases hget i bi hi with ⟨rfl,rfl⟩ | ⟨hne,hi2⟩<;>rcases hget j bj hj with ⟨rfl,rfl⟩ | ⟨hne',hj2⟩
  ·rfl
  ·rw [hoc] at h1; injection h1 with h1; subst h1; exact hw.inj _ j blk bj _ hb hj2 ho h2
  ·rw [hoc] at h2; injection h2 with h2; subst h2; exact hw.inj i _ bi blk _ hi2 hb h1 ho
  ·exact hw.inj i j bi bj g' hi2 hj2 h1 h2
 ·rcases hget i _ hi with ⟨rfl,e1⟩ | ⟨hne,hi2⟩
  ·exact absurd e1.symm (nro e c xs)
  ·rcases hget j bj hj with ⟨rfl,rfl⟩ | ⟨hne',hj2⟩
   ·rw [hoc] at h2; injection h2 with h2; subst h2; exact hw.ro i _ e c xs blk _ hi2 hx hb ho d hd
   ·exact hw.ro i j e c xs bj g' hi2 hx hj2 h2 d hd
 ·simp only [List.length_set]
  rcases List.mem_or_eq_of_mem_set hc with hc | hc
  ·exact hw.okh c hc
  ·subst hc; exact hok
/-- A block is given up. -/
theorem RelW.kill {w0:Base} {w:World} {h:List Blk} (hw:RelW w0 β h w) (b:Nat):RelW w0 β (h.set b .dead) w:=by
 have hget:∀ (i:Nat) c,(h.set b .dead)[i]?=some c->c=.dead\/(i ≠ b/\h[i]?=some c):=by
  intro i c hi
  rw [List.getElem?_set] at hi
  split at hi
  ·split at hi
   ·injection hi with hi; exact .inl hi.symm
   ·cases hi
  ·rename_i e; exact .inr ⟨fun e'=>e e'.symm,hi⟩
 refine ⟨hw.below,fun i c hi=>?_,fun i c g' hi hg=>?_,fun i j bi bj g' hi hj h1 h2=>?_,fun i j e c xs bj g' hi hx hj h2 d hd=>?_,fun c hc=>?_,hw.mks,hw.nd⟩
 ·rcases hget i c hi with rfl | ⟨_,hi⟩
  ·trivial
  ·exact hw.blk i c hi
 ·rcases hget i c hi with rfl | ⟨_,hi⟩
  ·simp [Blk.occ] at hg
  ·exact hw.mine i c g' hi hg
 ·rcases hget i bi hi with rfl | ⟨_,hi⟩
  ·simp [Blk.occ] at h1
  ·rcases hget j bj hj with rfl | ⟨_,hj⟩
   ·simp [Blk.occ] at h2
   ·exact hw.inj i j bi bj g' hi hj h1 h2
 ·rcases hget i _ hi with e1 | ⟨_,hi⟩
  ·cases e1
  ·rcases hget j bj hj with rfl | ⟨_,hj⟩
   ·simp [Blk.occ] at h2
   ·exact hw.ro i j e c xs bj g' hi hx hj h2 d hd
 ·simp only [List.length_set]
  rcases List.mem_or_eq_of_mem_set hc with hc | hc
  ·exact hw.okh c hc
  ·subst hc; trivial
theorem RelW.restrict {w0:Base} {w:World} {h:List Blk} {β0:Nat->Loc} {h0:List Blk} (hw:RelW w0 β h w) (ht:h.take h0.length=h0) (hβ:∀ i,i < h0.length->β i=β0 i) (hok:∀ b ∈ h0,b.okh h0.length) :
  RelW w0 β0 h0 w:=by
 have hget:∀ (i:Nat) (b:Blk),h0[i]?=some b->h[i]?=some b/\i < h0.length:=by
  intro i b hi
  have hlt:=(List.getElem?_eq_some_iff.1 hi).1
  rw [<-ht,List.getElem?_take] at hi
  rw [if_pos hlt] at hi
  exact ⟨hi,hlt⟩
 refine ⟨hw.below,fun i c hi=>?_,fun i c g' hi hg=>?_,fun i j bi bj g' hi hj h1 h2=>?_,fun i j e c xs bj g' hi hx hj h2 d hd=>?_,hok,hw.mks,hw.nd⟩
 ·obtain ⟨h1,hlt⟩:=hget i c hi
  rw [<-hβ i hlt]
  exact (hw.blk i c h1).kept (hok c (List.mem_of_getElem? hi)) (fun k hk=>(hβ k hk).symm) (fun _ _=>rfl) (fun _ _ _ _ _ _ _=>rfl)
 ·obtain ⟨h1,hlt⟩:=hget i c hi
  rw [<-hβ i hlt] at hg; exact hw.mine i c g' h1 hg
 ·obtain ⟨h3,hlt⟩:=hget i bi hi
  obtain ⟨h4,hlt'⟩:=hget j bj hj
  rw [<-hβ i hlt] at h1; rw [<-hβ j hlt'] at h2
  exact hw.inj i j bi bj g' h3 h4 h1 h2
 ·obtain ⟨h3,hlt⟩:=hget i _ hi
  obtain ⟨h4,hlt'⟩:=hget j bj hj
  rw [<-hβ j hlt'] at h2; rw [<-hβ i hlt] at hd
  exact hw.ro i j e c xs bj g' h3 hx h4 h2 d hd
end
end Go.Proofs.YtkipmmiiackdaaaGreat.Sx
namespace Go.Proofs.YtkipmmiiackdaaaGreat.Sx
open Env (std)
open Go.RowKit Go.Proofs.YtkipmmiiackdaaaGreatW.PrintLast Go.Proofs.YtkipmmiiackdaaaGreatW.PrintWords
section
variable {P:Program} {β:Nat->Loc} {n:Nat} {s:St} {a:Act} {ds:List Deferred}
theorem storeCells_run {g d:Nat} {ty:TypeId}:∀ (us:List Value) (i:Nat) (w:World) (cs:Array Value),w.heap[g]?=some (.cells cs ty (0,0))->(∀ u ∈ us,u.oneCell'=true)->d+i+us.length<=cs.size ->
  ∃ (w':World) (cs':Array Value),(storeCells ⟨g,d,none⟩ us i).run P w=.ok () w'/\w'.heap[g]?=some (.cells cs' ty (0,0))/\cs'.toList=putAt cs.toList (d+i) us/\(∀ k,k ≠ g->w'.heap[k]?=w.heap[k]?)/\w'.heap.size=w.heap.size/\w'.os=w.os/\w'.tape=w.tape/\w'.output=w.output
 | [],i,w,cs,h,_,_=>⟨w,cs,rfl,h,rfl,fun _ _=>rfl,rfl,rfl,rfl,rfl⟩
 | u::us,i,w,cs,h,ho,hl=>by
  simp only [List.length_cons] at hl
  have hc:w.cell? ⟨g,d+i,none⟩=some cs[d+i]:=by rw [cell_own h,Array.getElem?_eq_getElem (by omega)]
  have h1:(store ((⟨g,d,none⟩:Addr).add i) u).run P w=.ok () (w.setCell ⟨g,d+i,none⟩ u):=by
   rw [add_own,run_store P w _ u _ (ho u (by simp)),hc]
   simp [frozen_own h]
  have hb:(w.setCell ⟨g,d+i,none⟩ u).heap[g]?=some (.cells (cs.setIfInBounds (d+i) u) ty (0,0)):=by
   simp only [World.setCell,Array.getElem?_modify,if_true]
   rw [h]; rfl
  obtain ⟨w',cs',hr,hg,hcs,hk,hz,h5,h6,h7⟩:=storeCells_run (d:=d) us (i+1) (w.setCell ⟨g,d+i,none⟩ u) _ hb (fun x hx=>ho x (by simp [hx])) (by simp; omega)
  refine ⟨w',cs',?_,hg,?_,fun k hne=>?_,?_,h5,h6,h7⟩
  ·simp only [storeCells,Sem.run_bind]
   rw [h1]
   exact hr
  ·rw [hcs]; simp [putAt,Nat.add_assoc]
  ·rw [hk k hne]; exact Below.heap_setCell _ _ _ _ hne
  ·rw [hz]; simp [World.setCell]
theorem storeAt_run {tt:Tab} (hT:TabOk P tt) {w0:Base} {w:World} {h:List Blk} (hw:RelW w0 β h w) {t:TypeId} (hh:tt.has t=true) {b d:Nat} {cs:List AV} {ty:TypeId} (hb:h[b]?=some (.cells cs ty)) {x:AV} {v:Value} (hx:AVR β x v) (hxok:x.ok h.length)
  (hlen:(cellsOf x).length=(tt.at t).sz) (hone:(cellsOf x).all AV.one=true) (hfit:d+(cellsOf x).length<=cs.length) :
  ∃ w',(Instr.storeAt t (.pointer (some ⟨(β b).g,d,none⟩)) v).run P w=.ok () w'/\RelW w0 β (h.set b (.cells (putAV cs d (cellsOf x)) ty)) w':=by
 have hq:=Tab.at_ok hT hh
 obtain ⟨vs,hg,hvs⟩:=hw.blk b _ hb
 have hr:=cells_rel hx (AV.one_ne hone).1 (AV.one_ne hone).2
 have hl1:=AVRs_length hr
 have hl2:=AVRs_length hvs
 obtain ⟨w',cs',h1,h2,h3,h4,h5,h6,h7,h8⟩:=storeCells_run (P:=P) (g:=(β b).g) (d:=d) v.cells.toList 0 w vs hg (one_all hr hone) (by rw [hl1,<-Array.length_toList,hl2]; omega)
 have hok:AV.oks h.length cs:=hw.okh _ (List.mem_of_getElem? hb)
 refine ⟨w',?_,hw.change hb (oks_of fun y hy=>(putAV_mem hy).elim (oks_mem hok y) (oks_mem (cells_ok hxok) y)) (g:=(β b).g) rfl rfl ⟨cs',h2,?_⟩ h4 (by omega) h6 h7 h8⟩
 ·unfold Instr.storeAt Instr.sureAddr storeVar
  simp only [Sem.run_bind,Sem.run_pure,Result.andThen_ok,run_size hq]
  have:v.cells.size=(tt.at t).sz:=by rw [<-Array.length_toList,hl1,hlen]
  rw [if_neg (by simp [this])]
  exact h1
 ·rw [h3]
  exact hvs.put _ hr
theorem putAt_take:∀ (us cs:List Value) (o:Nat),o+us.length<=cs.length->putAt cs o us=cs.take o++us++cs.drop (o+us.length)
 | [],cs,o,h=>by simp [putAt]
 | u::us,cs,o,h=>by
  simp only [List.length_cons] at h
  rw [putAt,putAt_take us _ (o+1) (by simp; omega)]
  have e1:(cs.set o u).take (o+1)=cs.take o++[u]:=by
   apply List.ext_getElem?
   intro i
   simp only [List.getElem?_take,List.getElem?_set,List.getElem?_append,List.length_take]
   by_cases h1:i < o
   ·simp [h1,show i < o+1 by omega,show o ≠ i by omega,show i < min o cs.length by omega]
   ·by_cases h2:i=o
    ·subst h2; simp [show i < cs.length by omega,show min i cs.length=i by omega]
    ·simp [show ¬ i < o+1 by omega,show ¬ i < min o cs.length by omega,show min o cs.length=o by omega,show i - o ≠ 0 by omega]; omega
  have e2:(cs.set o u).drop (o+1+us.length)=cs.drop (o+(us.length+1)):=by
   apply List.ext_getElem?
   intro i
   simp only [List.getElem?_drop,List.getElem?_set]
   rw [if_neg (by omega)]
   congr 1; omega
  rw [e1,e2]
  simp [List.length_cons]
theorem flat_take {c:Cd} (hc:c.Ok):∀ (xs:List c.α) (k:Nat),(xs.flatMap c.enc).take (k*c.sz)=(xs.take k).flatMap c.enc
 | [],k=>by simp
 | x::xs,0=>by simp
 | x::xs,k+1=>by
  simp only [List.flatMap_cons,List.take_succ_cons]
  rw [List.take_append,hc.len,Nat.succ_mul]
  have:(k*c.sz+c.sz - c.sz)=k*c.sz:=by omega
  rw [this,flat_take hc xs k,List.take_of_length_le (by rw [hc.len]; omega)]
/-- An element's cells written. -/
theorem flat_set {c:Cd} (hc:c.Ok):∀ (xs:List c.α) (i:Nat) (x u:c.α) (us:List Value) (d:Nat),xs[i]?=some x->c.enc u=putAt (c.enc x) d us->d+us.length<=c.sz->putAt (xs.flatMap c.enc) (i*c.sz+d) us=(xs.set i u).flatMap c.enc
 | [],i,x,u,us,d,h,_,_=>by simp at h
 | y::xs,0,x,u,us,d,h,hu,hd=>by
  simp at h; subst h
  simp only [List.flatMap_cons,List.set_cons_zero,Nat.zero_mul,Nat.zero_add,hu]
  rw [putAt_take _ _ _ (by simp [hc.len]; omega),putAt_take _ _ _ (by rw [hc.len]; exact hd)]
  rw [List.take_append_of_le_length (by rw [hc.len]; omega),List.drop_append_of_le_length (by rw [hc.len]; omega)]
  simp
 | y::xs,i+1,x,u,us,d,h,hu,hd=>by
  simp at h
  have ih:=flat_set hc xs i x u us d h hu hd
  simp only [List.flatMap_cons,List.set_cons_succ]
  have hil:i < xs.length:=(List.getElem?_eq_some_iff.1 h).1
  have hmul:i*c.sz+c.sz<=xs.length*c.sz:=by rw [<-Nat.succ_mul]; exact Nat.mul_le_mul_right _ hil
  rw [putAt_take _ _ _ (by simp only [List.length_append,hc.len,flat_length hc,Nat.succ_mul]; omega)]
  rw [<-ih,putAt_take _ _ _ (by simp only [flat_length hc]; omega)]
  rw [List.take_append,List.drop_append,hc.len]
  rw [List.take_of_length_le (by rw [hc.len,Nat.succ_mul]; omega)]
  rw [List.drop_eq_nil_of_le (by rw [hc.len,Nat.succ_mul]; omega)]
  have e1:(i+1)*c.sz+d - c.sz=i*c.sz+d:=by rw [Nat.succ_mul]; omega
  have e2:(i+1)*c.sz+d+us.length - c.sz=i*c.sz+d+us.length:=by rw [Nat.succ_mul]; omega
  rw [e1,e2]
  simp
theorem Env.get_eq {α:Type} {xs:List α} {i:Int} {z:α} (h0:0<=i) (h1:i < xs.length):xs[i.toNat]?=some (std.get α xs i z):=by
 have hlt:i.toNat < xs.length:=by omega
 simp only [std,List.getD_eq_getElem?_getD,List.getElem?_eq_getElem hlt,Option.getD_some]
theorem storeRow_run {tt:Tab} (hT:TabOk P tt) {w0:Base} {w:World} {h:List Blk} (hw:RelW w0 β h w) {t:TypeId} (hh:tt.has t=true) {b d:Nat} {e:TypeId} {c:Cd} {xs:List c.α} (hb:h[b]?=some (.row true e c xs)) {i:Int} (h0:0<=i) (h1:i < (β b).n)
  {ad:Addr} (had:(β b).a=some ad) {v:Value} {us:List Value} (hv:v.cells.toList=us) (h1c:∀ u ∈ us,u.oneCell'=true) {u:c.α} (hu:c.dec (if us.length == c.sz then us else putAt (c.enc (std.get c.α xs i c.z)) d us)=some u) (hlen:us.length=(tt.at t).sz) (hfit:d+us.length<=c.sz) :
  ∃ w',(Instr.storeAt t (.pointer (some (ad.add (i.toNat*(β b).z+d)))) v).run P w=.ok () w'/\RelW w0 β (h.set b (.row true e c (std.set c.α xs i u))) w':=by
 have hq:=Tab.at_ok hT hh
 obtain ⟨hc,hz,hn,ho⟩:=hw.blk b _ hb
 have hilt:i < xs.length:=by rw [hn] at h1; exact h1
 have hget:=Env.get_eq (z:=c.z) h0 hilt
 rcases ho.2 with ⟨h2,_⟩ | ⟨g,cap,cur,h2,_,hg,hnc,hcm,hcs,htk⟩
 ·rw [had] at h2; cases h2
 ·injection h2 with h2 _ h3
  rw [had] at h2; injection h2 with h2; subst h2
  have hsz:i.toNat*c.sz+c.sz<=xs.length*c.sz:=by rw [<-Nat.succ_mul]; exact Nat.mul_le_mul_right _ (by omega)
  have hcsz:xs.length*c.sz<=cur.size:=by rw [hcs]; exact Nat.mul_le_mul_right _ (by rw [<-hn]; exact hnc)
  obtain ⟨w',cs',r1,r2,r3,r4,r5,r6,r7,r8⟩:=storeCells_run (P:=P) (g:=g) (d:=i.toNat*c.sz+d) us 0 w cur hg h1c (by omega)
  have hd:us.length=c.sz->d=0:=by omega
  have hencu:c.enc u=putAt (c.enc (std.get c.α xs i c.z)) d us:=by
   by_cases he:us.length=c.sz
   ·have hbeq:(us.length == c.sz)=true:=by simpa using he
    rw [hbeq,if_pos rfl] at hu
    rw [hc.dec _ _ hu,putAt_take _ _ _ (by rw [hc.len]; omega),hd he]
    simp only [List.take_zero,List.nil_append,Nat.zero_add]
    rw [List.drop_eq_nil_of_le (by rw [hc.len]; omega)]; simp
   ·have hbeq:(us.length == c.sz)=false:=by simpa using he
    rw [hbeq] at hu
    exact hc.dec _ _ hu
  have hset:std.set c.α xs i u=xs.set i.toNat u:=rfl
  have hoc:(Blk.row true e c xs).occ (β b)=some g:=by simp [Blk.occ,had]
  refine ⟨w',?_,hw.change hb trivial (g:=g) hoc hoc ⟨hc,hz,?_,?_,?_⟩ r4 (by omega) r6 r7 r8⟩
  ·unfold Instr.storeAt Instr.sureAddr storeVar
   simp only [Sem.run_bind,Sem.run_pure,Result.andThen_ok,run_size hq]
   have:v.cells.size=(tt.at t).sz:=by rw [<-Array.length_toList,hv,hlen]
   rw [if_neg (by simp [this]),hv,hz,add_own]
   have:0+(i.toNat*c.sz+d)=i.toNat*c.sz+d:=by omega
   rw [this]
   exact r1
  ·rw [hset]; simp [hn]
  ·rw [hset,flat_length hc,List.length_set,hn]
  ·refine .inr ⟨g,cap,cs',?_,Nat.zero_le _,r2,hnc,hcm,?_,?_⟩
   ·rw [had,h3]
   ·rw [<-Array.length_toList,r3,putAt_length,Array.length_toList]; exact hcs
   ·rw [r3,hset,<-flat_set hc xs i.toNat _ u us d hget hencu hfit]
    rw [<-htk,hn]
    have hlt:(cur.toList.take (xs.length*c.sz)).length=xs.length*c.sz:=by simp; omega
    rw [putAt_take _ _ _ (by simp only [Array.length_toList]; omega),putAt_take _ _ _ (by rw [hlt]; omega)]
    rw [List.take_append,List.take_append]
    apply List.ext_getElem?
    intro j
    simp only [Nat.add_zero,List.getElem?_append,List.getElem?_take,List.getElem?_drop,List.length_append,List.length_take,Array.length_toList]
    have q1:min (i.toNat*c.sz+d) cur.size=i.toNat*c.sz+d:=by omega
    have q2:min (i.toNat*c.sz+d) (min (xs.length*c.sz) cur.size)=i.toNat*c.sz+d:=by omega
    have q3:min (xs.length*c.sz) (i.toNat*c.sz+d)=i.toNat*c.sz+d:=by omega
    have q4:min (xs.length*c.sz - (i.toNat*c.sz+d)) us.length=us.length:=by omega
    simp only [q1,q2,q3,q4]
    by_cases c1:j < i.toNat*c.sz+d
    ·simp [c1,show j < xs.length*c.sz by omega,show j < i.toNat*c.sz+d+us.length by omega]
    ·by_cases c2:j < i.toNat*c.sz+d+us.length
     ·simp [c1,c2,show j - (i.toNat*c.sz+d) < xs.length*c.sz - (i.toNat*c.sz+d) by omega,show j - (i.toNat*c.sz+d) < us.length by omega]
     ·simp [c1,c2]
      by_cases c3:j < xs.length*c.sz
      ·have e1:i.toNat*c.sz+d+us.length+(j - (i.toNat*c.sz+d+us.length))=j:=by omega
       simp [e1,c3,show j - (i.toNat*c.sz+d+us.length) < xs.length*c.sz - (i.toNat*c.sz+d+us.length) by omega]
      ·have e1:i.toNat*c.sz+d+us.length+(j - (i.toNat*c.sz+d+us.length))=j:=by omega
       simp [e1,c3,show ¬ j - (i.toNat*c.sz+d+us.length) < xs.length*c.sz - (i.toNat*c.sz+d+us.length) by omega]
theorem fillA_run (ht:RelT ds β n s.t a):∀ (parts:List (Nat × Operand)) (l:List AV) (cs:Array Value) (r:List AV) (z:Nat),fillA s z l parts=some r->AVRs β l cs.toList->AV.oks n l ->
  ∃ us:Array Value,Instr.fill (fun i=>some (i*z,z)) cs (parts.map fun (i,x)=>(i,a.eval x))=some us/\AVRs β r us.toList/\AV.oks n r
 | [],l,cs,r,z,h,hl,hk=>by
  simp only [fillA] at h; injection h with h; subst h
  exact ⟨cs,rfl,hl,hk⟩
 | (i,x)::rest,l,cs,r,z,h,hl,hk=>by
  simp only [fillA] at h
  split at h
  ·rename_i hc
   simp only [Bool.and_eq_true,beq_iff_eq,decide_eq_true_eq] at hc
   obtain ⟨hx,hok⟩:=ev_rel ht x
   have hr:=cells_rel hx (AV.one_ne hc.1.2).1 (AV.one_ne hc.1.2).2
   have hsz:(a.eval x).cells.size=z:=by rw [<-Array.length_toList,AVRs_length hr]; exact hc.1.1
   have hcs:((a.eval x).cells.zipIdx.foldl (fun cs (p:Value × Nat)=>cs.setIfInBounds (i*z+p.2) p.1) cs).toList=putAt cs.toList (i*z) (a.eval x).cells.toList:=by
    rw [<-Array.foldl_toList,Array.toList_zipIdx,fold_putAt]; rfl
   have hcsl:cs.size=l.length:=by rw [<-Array.length_toList]; exact AVRs_length hl
   have hk':AV.oks n (putAV l (i*z) (cellsOf (ev s x))):=oks_of fun y hy=>(putAV_mem hy).elim (oks_mem hk y) (oks_mem (cells_ok hok) y)
   obtain ⟨us,h1,h2,h3⟩:=fillA_run ht rest _ ((a.eval x).cells.zipIdx.foldl (fun cs (p:Value × Nat)=>cs.setIfInBounds (i*z+p.2) p.1) cs) r z h (by rw [hcs]; exact hl.put _ hr) hk'
   refine ⟨us,?_,h2,h3⟩
   simp only [List.map_cons,Instr.fill]
   rw [if_neg (by rw [hsz]; simp; omega)]
   exact h1
  ·cases h
/-- Elements, over and over. -/
def repL:Nat->List Value->List Value
 | 0,_=>[]
 | n+1,l=>l++repL n l
theorem repL_eq (zero:List Value) (z:Nat) (hz:zero.length=z) (h0:0 < z):∀ len:Nat,((Array.range (len*z)).map (zero.toArray[· % zero.toArray.size]!)).toList=repL len zero:=by
 intro len
 have key:∀ len:Nat,repL len zero=((List.range (len*z)).map fun i=>zero[i % z]!):=by
  intro len
  induction len with
  | zero=>simp [repL]
  | succ len ih=>
   simp only [repL,Nat.succ_mul,ih]
   rw [Nat.add_comm (len*z) z,List.range_add,List.map_append]
   congr 1
   ·apply List.ext_getElem?
    intro j
    simp only [List.getElem?_map]
    by_cases hj:j < z
    ·rw [List.getElem?_range hj]
     simp only [Option.map_some,Nat.mod_eq_of_lt hj]
     rw [List.getElem?_eq_getElem (by omega)]
     simp [List.getElem!_eq_getElem?_getD,List.getElem?_eq_getElem (show j < zero.length by omega)]
    ·rw [List.getElem?_eq_none (by omega),List.getElem?_eq_none (by simp; omega)]
     rfl
   ·rw [List.map_map]
    apply List.map_congr_left
    intro i _
    simp [Nat.add_mod_left]
 rw [key len]
 simp [hz]
theorem repeatL_rel (zero:List Value):∀ len:Nat,AVRs β (repeatL len zero) (repL len zero)
 | 0=>by simp only [repeatL,repL,AVRs]
 | len+1=>by simp only [repeatL,repL]; exact (AVRs.vs _).append (repeatL_rel zero len)
theorem repeatL_ok (zero:List Value) (m:Nat):∀ len:Nat,AV.oks m (repeatL len zero)
 | 0=>by simp only [repeatL,AV.oks]
 | len+1=>by simp only [repeatL]; exact oks_append (oks_vs _) (repeatL_ok zero m len)
theorem repL_flat {c:Cd} {zero:List Value} (h:c.enc c.z=zero):∀ len:Nat,repL len zero=(List.replicate len c.z).flatMap c.enc
 | 0=>rfl
 | len+1=>by simp only [repL,List.replicate_succ,List.flatMap_cons,h,repL_flat h len]
/-- What follows an operation: any state that stands to the executor's. -/
def After (ds:List Deferred) (w0:Base) (β:Nat->Loc) (h:List Blk) (st:Bool) (K:St->Prop) (a:Act) (w:World):Prop:=
 ∃ (s:St) (β':Nat->Loc),RelT ds β' s.h.length s.t a/\RelW w0 β' s.h w/\Ext h.length β s.h β'/\(st=false->s.h.take h.length=h)/\K s
theorem lim_loads {tt:Tab} {s:St} {n0:Option Nat} {t:TypeId} {x:Operand} {y:AV} (h:loadA std tt (lim n0 s) t x=some y):loadA std tt s t x=some y:=by
 cases n0 with
 | none=>exact h
 | some m=>
  have e:∀ x,ev (lim (some m) s) x=ev s x:=fun x=>by cases x<;>rfl
  have hl:∀ {b:Nat} {k:Blk},(lim (some m) s).h[b]?=some k->s.h[b]?=some k:=by
   intro b k hb
   simp only [lim,List.getElem?_take] at hb
   split at hb
   ·exact hb
   ·cases hb
  unfold loadA at h ⊢
  rw [e] at h
  split at h
  ·rename_i hh
   rw [if_pos hh]
   split at h
   ·rename_i b o he
    split at h
    ·rename_i cs ty hb
     simp only [hl hb]; exact h
    ·cases h
   ·rename_i b i o he
    split at h
    ·rename_i ow e c xs hb
     simp only [hl hb]; exact h
    ·cases h
   ·cases h
  ·cases h
theorem After.same {w0:Base} {w':World} {K:St->Prop} {st:Bool} (ht:RelT ds β s.h.length s.t a) (hw:RelW w0 β s.h w') {x:AV} {y:Value} (hx:AVR β x y) (hk:x.ok s.h.length) {d:Option Tmp} (h:K (s.put d x)):After ds w0 β s.h st K (a.put d y) w':=
 ⟨s.put d x,β,by rw [put_h]; exact ht.put hx hk d,by rw [put_h]; exact hw,by rw [put_h]; exact ⟨Nat.le_refl _,fun _ _=>rfl⟩,fun _=>by rw [put_h]; exact List.take_length,h⟩
theorem After.new {w0:Base} {w':World} {K:St->Prop} {st:Bool} (ht:RelT ds β s.h.length s.t a) {b:Blk} {l:Loc} (hw:RelW w0 (grow β s.h.length l) (s.h++[b]) w') {x:AV} {y:Value} (hx:AVR (grow β s.h.length l) x y) (hk:x.ok (s.h.length+1)) {d:Option Tmp} (h:K ((s.new b).put d x)):After ds w0 β s.h st K (a.put d y) w':=by
 refine ⟨(s.new b).put d x,grow β s.h.length l,?_,by rw [put_h]; exact hw,?_,fun _=>?_,h⟩
 ·rw [put_h]
  have:(s.new b).h.length=s.h.length+1:=by simp [St.new]
  rw [this]
  exact RelT.put (s:=s.new b) (ht.grow l) hx hk d
 ·rw [put_h]; exact ⟨by simp [St.new],fun i hi=>grow_lt hi⟩
 ·rw [put_h]; simp [St.new]
theorem ownsRow_prefix {w:World} {e:TypeId} {c:Cd} (hc:c.Ok) {d:Option Addr} {cap base:Nat} {xs:List c.α} (h:w.ownsRow base e c.sz (.slice d xs.length cap) xs.length (xs.flatMap c.enc)) {l:Nat} (hl:l<=xs.length):w.ownsRow base e c.sz (.slice d l cap) l ((xs.take l).flatMap c.enc):=by
 refine ⟨by rw [flat_length hc,List.length_take,Nat.min_eq_left hl],?_⟩
 rcases h.2 with ⟨h1,h2⟩ | ⟨g,cap',cur,h1,h3,h4,h5,h6,h7,h8⟩
 ·injection h1 with h1 _ h3
  exact .inl ⟨by rw [h1,h3]; congr 1; omega,by omega⟩
 ·injection h1 with h1 _ h9
  refine .inr ⟨g,cap',cur,by rw [h1,h9],h3,h4,by omega,h6,h7,?_⟩
  rw [<-flat_take hc,<-h8,List.take_take]
  congr 1
  exact (Nat.min_eq_left (Nat.mul_le_mul_right _ hl)).symm
end
end Go.Proofs.YtkipmmiiackdaaaGreat.Sx
