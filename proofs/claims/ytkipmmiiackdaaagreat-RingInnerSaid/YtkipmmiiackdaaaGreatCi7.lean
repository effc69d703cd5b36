/- Part 7 of what the statement needs: an executor of Go texts, arithmetic, and contracts of the functions that are called. -/
import Derived.Test.YtkipmmiiackdaaaGreatCi6
set_option linter.unusedSimpArgs false
set_option linter.unusedVariables false
namespace Go.Proofs.YtkipmmiiackdaaaGreat.Sx
open Env (std)
open Go.RowKit Go.Proofs.YtkipmmiiackdaaaGreatW.PrintLast Go.Proofs.YtkipmmiiackdaaaGreatW.PrintWords
section
variable {P:Program} {β:Nat->Loc} {n:Nat} {s:St} {a:Act} {ds:List Deferred}
abbrev Hdl:=List Blk->FuncId->List AV->(AV->List Blk->Prop)->Prop
/-- A round: what holds of what comes back. -/
structure YieldTo (P:Program) (h:List Blk) (b:Nat) (args:List AV) (K:AV->List Blk->Prop):Prop where
 out:∀ (r:Option Nat) (w0:Base) (β:Nat->Loc) (w:World) (vs:Array Value),RelW w0 β h w->AV.oks h.length args->AVRs β args vs.toList ->
  ∃ fn tmps asg body,(Instr.yield (β b).g vs).run P w=.ok (.round (β b).g fn tmps asg body) w/\RoundIn (fen r) 0 P (β b).g fn tmps asg body w fun e w'=>∃ v x h' β',e=.returned v/\AVR β' x v/\x.ok h'.length/\RelW w0 β' h' w'/\Ext h.length β h' β'/\K x h'
def Hdl.ok (P:Program) (C:Hdl):Prop:=(∀ h f args K,C h f args K->f ≠ yieldId->CallTo P h f args K)/\∀ h b args K,C h yieldId (.yl b::args) K->YieldTo P h b args K
theorem calls_fen {r:Option Nat} {n:Nat} {f:FuncId} {args:Array Value} {w:World} {R:Ending->World->Prop} (h:Calls P f args w R):CallsIn (fen r) n P f args w R:=by
 cases r with
 | none=>exact callsIn_wide.2 h
 | some l=>exact (callsIn_wide.2 h:CallsIn Fence.wide n P f args w R)
theorem realA_some {g g':FuncId} {f c f' c':List AV} (h:realA g f c=some (g',f',c')):g ≠ yieldId/\g=g'/\f=f'/\c=c':=by
 unfold realA at h
 split at h
 ·cases h
 ·rename_i hne
  injection h with h; injection h with h1 h; injection h with h2 h3
  exact ⟨by simpa using hne,h1,h2,h3⟩
theorem actA_sound {r:Option Nat} {tt:Tab} (hT:TabOk P tt) {C:Hdl} (hC:C.ok P) {w0:Base} {w:World} (ht:RelT ds β s.h.length s.t a) (hw:RelW w0 β s.h w) {o:Oper} {n0:Option Nat} {K:St->Prop} (h:actA P std tt C n0 o s K)
  {Q:Exit->Act->World->Prop} {K':Act->World->Prop} (hK:∀ a' w',After ds w0 β s.h (isStoreB o.op || n0.isNone) K a' w'->K' a' w'):o.wpIn (fen r) 0 P a w K' Q:=by
 obtain ⟨dst,op,ty,pos,after,guard⟩:=o
 have hle:=hw.below.size
 cases op with
 | load t x=>
  simp only [actA] at h
  split at h
  ·rename_i y hy
   obtain ⟨v,hv,hr,hok⟩:=loadA_sound hT ht hw (lim_loads hy)
   split at h
   ·exact wpi_of (execLoad rfl hv) (hK _ _ (.same ht hw hr hok h))
   ·exact h.elim
  ·exact h.elim
 | alloc t=>
  simp only [actA] at h
  split at h
  ·rename_i hh
   have hq:=Tab.at_ok hT hh
   have hrun:(execOp a.eval { dst:=dst,op:=.alloc t,type:=ty,pos:=pos,after:=after,guard:=guard }).run P w=.ok (.value (.pointer (some ⟨w.heap.size,0,none⟩))) { w with heap:=w.heap.push (.cells (tt.at t).zero.toArray t) }:=by
    simp only [execOp]
    rw [Sem.run_bind]
    unfold Instr.alloc
    simp only [Sem.run_bind,run_zero hq,Result.andThen_ok,newVar,newRow,run_newObj,Sem.run_pure,zero_cells hq]
   split at h
   ·split at h
    ·rename_i c hcd
     split at h
     ·rename_i hc
      simp only [Bool.and_eq_true,decide_eq_true_eq] at hc
      obtain ⟨hz,hk⟩:=h
      obtain ⟨hcok,_,_⟩:=(Tab.at_ok hT hc.1).cd c hcd
      have hrep:std.rep c.α (std.nof (tt.at t).len) c.z=List.replicate (tt.at t).len c.z:=by simp only [std,Int.toNat_natCast]
      refine wpi_of hrun (hK _ _ (.new ht (l:=⟨w.heap.size,some ⟨w.heap.size,0,none⟩,(tt.at t).len,c.sz,(tt.at t).len⟩) (hw.newRow hcok rfl (by rw [hrep]; simp) ?_ (below_push (Nat.le_refl _))) ?_ ?_ hk))
      ·refine ⟨by rw [hrep,flat_length hcok]; simp,.inr ⟨w.heap.size,_,_,rfl,Nat.le_refl _,heap_push_at,Nat.le_refl _,?_,?_,?_⟩⟩
       ·simp only [maxLen]; omega
       ·rw [List.size_toArray,hz,flat_length hcok]; simp
       ·rw [hrep,<-hz,List.toList_toArray,List.take_of_length_le]
        rw [hz,flat_length hcok]; simp
      ·simp only [AVR,grow_at]; exact ⟨_,rfl,trivial,rfl⟩
      ·simp only [AV.ok]; omega
     ·exact h.elim
    ·refine wpi_of hrun (hK _ _ (.new ht (l:=⟨w.heap.size,none,0,0,0⟩) (hw.new (cs:=(tt.at t).zero.map .v) (by simpa using AVRs.vs _) (oks_vs _) _ rfl) ?_ ?_ h))
     ·simp only [AVR,grow_at]
     ·simp only [AV.ok]; omega
   ·refine wpi_of hrun (hK _ _ (.new ht (l:=⟨w.heap.size,none,0,0,0⟩) (hw.new (cs:=(tt.at t).zero.map .v) (by simpa using AVRs.vs _) (oks_vs _) _ rfl) ?_ ?_ h))
    ·simp only [AVR,grow_at]
    ·simp only [AV.ok]; omega
  ·exact h.elim
 | box t x=>
  simp only [actA] at h
  split at h
  ·exact h.elim
  ·exact h.elim
  ·rename_i hne1 hne2
   obtain ⟨hx,hok⟩:=ev_rel ht x
   have hrun:(execOp a.eval { dst:=dst,op:=.box t x,type:=ty,pos:=pos,after:=after,guard:=guard }).run P w=.ok (.value (.pointer (some ⟨w.heap.size,0,none⟩))) { w with heap:=w.heap.push (.cells (a.eval x).cells t) }:=by
    simp only [execOp]
    rw [Sem.run_bind]
    unfold Instr.box
    simp only [Sem.run_bind,Result.andThen_ok,newVar,newRow,run_newObj,Sem.run_pure]
   refine wpi_of hrun (hK _ _ (.new ht (l:=⟨w.heap.size,none,0,0,0⟩) (hw.new (cells_rel hx (fun e=>hne1 e) (fun l e=>hne2 l e)) (cells_ok hok) _ rfl) ?_ ?_ h))
   ·simp only [AVR,grow_at]
   ·simp only [AV.ok]; omega
 | store t x y=>
  simp only [actA] at h
  split at h
  ·rename_i b d he
   split at h
   ·rename_i cs ty' hb
    split at h
    ·rename_i hc
     simp only [Bool.and_eq_true,beq_iff_eq,decide_eq_true_eq] at hc
     obtain ⟨h1,h2⟩:=ev_p ht he
     obtain ⟨hy,hok⟩:=ev_rel ht y
     obtain ⟨w',hr,hw'⟩:=storeAt_run hT hw hc.1.2 hb hy hok hc.1.1.1 hc.1.1.2 hc.2
     have hrun:(execOp a.eval { dst:=dst,op:=.store t x y,type:=ty,pos:=pos,after:=after,guard:=guard }).run P w=.ok .skip w':=by
      simp only [execOp,h1]
      rw [Sem.run_bind,hr]; rfl
     refine wpi_skip hrun (hK _ _ ⟨_,β,?_,?_,?_,fun e=>by simp [isStoreB] at e,h⟩)
     ·rw [put_h]
      have:(s.h.set b (.cells (putAV cs d (cellsOf (ev s y))) ty')).length=s.h.length:=by simp
      simp only [this]
      exact RelT.put (s:={ s with h:=s.h.set b (.cells (putAV cs d (cellsOf (ev s y))) ty') }) ht avr_v (by simp only [AV.ok]) dst
     ·rw [put_h]; exact hw'
     ·rw [put_h]; exact ⟨by simp,fun _ _=>rfl⟩
    ·exact h.elim
   ·exact h.elim
  ·rename_i b i d he
   split at h
   ·rename_i e c xs hb
    split at h
    ·rename_i us hus
     split at h
     ·rename_i hc
      simp only [Bool.and_eq_true,beq_iff_eq,decide_eq_true_eq] at hc
      split at h
      ·rename_i u hu
       obtain ⟨⟨h1,h2,ad,h3,h4⟩,h5⟩:=ev_e ht he
       obtain ⟨hy,hok⟩:=ev_rel ht y
       have hany:ev s y ≠ .any/\∀ l,ev s y ≠ .tup l:=by
        constructor
        ·intro e; rw [e] at hus; simp [cellsOf,plain] at hus
        ·intro l e; rw [e] at hus; simp [cellsOf,plain] at hus
       have hcr:=plain_rel hus (cells_rel hy hany.1 hany.2)
       have hcok:=(hw.hb b _ _ _ _ hb).ok
       have hone:∀ x ∈ us,x.oneCell'=true:=by
        intro x hx
        have henc:=hcok.one u
        by_cases hfull:us.length=c.sz
        ·have hb2:(us.length == c.sz)=true:=by simpa using hfull
         rw [hb2,if_pos rfl] at hu
         rw [hcok.dec _ _ hu] at henc
         exact henc x hx
        ·have hb2:(us.length == c.sz)=false:=by simpa using hfull
         rw [hb2] at hu
         have hdec:=hcok.dec _ _ hu
         rw [hdec,putAt_take _ _ _ (by rw [hcok.len]; exact hc.2)] at henc
         exact henc x (by simp [hx])
       obtain ⟨w',hr,hw'⟩:=storeRow_run hT hw hc.1.2 hb h1 h2 h3 hcr hone hu hc.1.1 hc.2
       have hrun:(execOp a.eval { dst:=dst,op:=.store t x y,type:=ty,pos:=pos,after:=after,guard:=guard }).run P w=.ok .skip w':=by
        simp only [execOp,h4]
        rw [Sem.run_bind,hr]; rfl
       refine wpi_skip hrun (hK _ _ ⟨_,β,?_,?_,?_,fun e=>by simp [isStoreB] at e,h⟩)
       ·rw [put_h]
        have:(s.h.set b (.row true e c (std.set c.α xs i u))).length=s.h.length:=by simp
        simp only [this]
        exact RelT.put (s:={ s with h:=s.h.set b (.row true e c (std.set c.α xs i u)) }) ht avr_v (by simp only [AV.ok]) dst
       ·rw [put_h]; exact hw'
       ·rw [put_h]; exact ⟨by simp,fun _ _=>rfl⟩
      ·exact h.elim
     ·exact h.elim
    ·exact h.elim
   ·exact h.elim
  ·exact h.elim
 | binOp op t x y t2=>
  simp only [actA] at h
  split at h
  ·rename_i hc
   simp only [Bool.and_eq_true,beq_iff_eq] at hc
   obtain ⟨⟨c0,c1⟩,c2⟩:=hc
   have nil_ev:∀ z,Op.isNil (ev s z)=true->a.eval z=.slice none 0 0:=by
    intro z hz
    unfold Op.isNil at hz
    split at hz
    ·rename_i he; exact ev_c ht he
    ·rename_i he; exact ev_v ht he
    ·cases hz
   have hy:=nil_ev y c2
   have hq:=Tab.at_ok hT (Tab.has_of (t:=t) (by rw [c1]; decide))
   obtain ⟨d,hd,hkd,hel,_⟩:=hq.und'
   rw [c1] at hkd
   cases d<;>simp [kindB] at hkd
   have hrun:∀ (d:Option Addr) (l c:Nat),a.eval x=.slice d l c->(execOp a.eval { dst:=dst,op:=.binOp .eql t x y t2,type:=ty,pos:=pos,after:=after,guard:=guard }).run P w=.ok (.value (.bool d.isNone)) w:=by
    intro d l c hx
    simp only [execOp,hx,hy]
    refine run_value ?_
    rw [Sem.run_bind]
    have:(eqGuard .eql t x y (.slice d l c) (.slice none 0 0)).run P w=.ok () w:=rfl
    rw [this]
    exact Go.Lib.run_eql_slice_nil w t _ d l c 0 0 hd
   split at h
   ·split at h
    ·rename_i hx
     have:=hrun none 0 0 (nil_ev x hx)
     exact wpi_of this (hK _ _ (.same ht hw avr_c (by simp only [AV.ok]) h))
    ·split at h
     ·rename_i b l he
      split at h
      ·rename_i ow e c xs hb
       obtain ⟨⟨h1,h2,h3⟩,h4⟩:=ev_s ht he
       have hrb:=hw.hb b _ _ _ _ hb
       have hrd:=hw.reads hb
       have hn:=hrb.n
       refine wpi_of (hrun _ _ _ h3) (hK _ _ (.same ht hw avr_v (by simp only [AV.ok]) (h.out _ fun hv=>?_)))
       have hnone:(β b).a=none:=by simpa using hv
       cases xs with
       | nil=>simp at hn; omega
       | cons y ys=>obtain ⟨_,h,_⟩:=hrd 0 y rfl; rw [hnone] at h; cases h
      ·exact h.elim
     ·rename_i b o' l he
      split at h
      ·rename_i ow e c xs hb
       obtain ⟨⟨h1,h2,h3,d,k,h4,h5,h6⟩,h7⟩:=ev_w ht he
       have hrb:=hw.hb b _ _ _ _ hb
       have hrd:=hw.reads hb
       have hn:=hrb.n
       refine wpi_of (hrun _ _ _ h4) (hK _ _ (.same ht hw avr_v (by simp only [AV.ok]) (h.out _ fun hv=>?_)))
       have hnone:d=none:=by simpa using hv
       refine Decidable.byContradiction fun hl=>?_
       have h8:=h6 (by omega)
       rw [hnone] at h8
       cases hba:(β b).a with
       | some a=>rw [hba] at h8; cases h8
       | none=>
        cases xs with
        | nil=>simp at hn; omega
        | cons y ys=>obtain ⟨_,h,_⟩:=hrd 0 y rfl; rw [hba] at h; cases h
      ·exact h.elim
     ·exact h.elim
   ·exact h.elim
  ·exact h.elim
 | buildSlice t len parts=>
  simp only [actA] at h
  split at h
  ·rename_i hc
   simp only [Bool.and_eq_true,beq_iff_eq] at hc
   obtain ⟨⟨⟨c1,c0⟩,cp⟩,c3⟩:=hc
   subst c0
   have hparts:parts=#[]:=Array.eq_empty_of_size_eq_zero cp
   subst hparts
   split at h
   ·rename_i cd hcd
    have hq:=Tab.at_ok hT (Tab.has_of (t:=t) (by rw [c1]; decide))
    have hqe:=Tab.at_ok hT c3
    obtain ⟨hcok,hzero,hcsz⟩:=hqe.cd cd hcd
    obtain ⟨d,hd,hkd,hel,_⟩:=hq.und'
    rw [c1] at hkd
    cases d<;>simp [kindB] at hkd
    simp only [elemB] at hel
    subst hel
    have hrun:(execOp a.eval { dst:=dst,op:=.buildSlice t 0 #[],type:=ty,pos:=pos,after:=after,guard:=guard }).run P w=.ok (.value (.slice (some ⟨w.heap.size,0,none⟩) 0 0)) { w with heap:=w.heap.push (.cells #[] (tt.at t).elem) }:=by
     simp only [execOp]
     rw [Sem.run_bind]
     unfold Instr.buildSlice
     simp only [Sem.run_bind,run_und hd,Result.andThen_ok,run_size hqe]
     rw [if_neg (by omega),if_pos (by omega)]
     simp only [Sem.run_bind,Sem.run_pure,Result.andThen_ok]
     simp [Instr.fill,newRow,run_newObj]
     exact congrArg (fun z=>w.alloc (Obj.cells z (tt.at t).elem)) (Array.eq_empty_of_size_eq_zero (by simp))
    refine wpi_of hrun (hK _ _ (.new ht (l:=⟨w.heap.size,some ⟨w.heap.size,0,none⟩,0,cd.sz,0⟩) (hw.newRow hcok rfl rfl ?_ (below_push (Nat.le_refl _))) ?_ ?_ h))
    ·refine ⟨by simp,.inr ⟨w.heap.size,_,_,rfl,Nat.le_refl _,heap_push_at,by simp,?_,?_,?_⟩⟩
     ·simp only [maxLen]; omega
     ·simp
     ·simp
    ·refine avr_s (Int.le_refl _) (by rw [grow_at]; simp) (by rw [grow_at]; rfl)
    ·simp only [AV.ok]; omega
   ·exact h.elim
  split at h
  ·rename_i hc
   simp only [Bool.and_eq_true,beq_iff_eq,decide_eq_true_eq] at hc
   obtain ⟨⟨⟨⟨⟨⟨c1,c0⟩,c2⟩,c3⟩,c4⟩,c5⟩,c6⟩:=hc
   split at h
   ·rename_i cs hcs
    have hq:=Tab.at_ok hT c2
    have hqe:=Tab.at_ok hT c3
    obtain ⟨d,hd,hkd,hel,_⟩:=hq.und'
    rw [c1] at hkd
    cases d<;>simp [kindB] at hkd
    simp only [elemB] at hel
    subst hel
    obtain ⟨us,h1,h2,h3⟩:=fillA_run ht parts.toList _ ((Array.range (len*(tt.at (tt.at t).elem).sz)).map ((tt.at (tt.at t).elem).zero.toArray[· % (tt.at (tt.at t).elem).zero.toArray.size]!)) cs _ hcs
     (by rw [repL_eq _ _ c5 c6]; exact repeatL_rel _ _) (repeatL_ok _ _ _)
    have hrun:(execOp a.eval { dst:=dst,op:=.buildSlice t len parts,type:=ty,pos:=pos,after:=after,guard:=guard }).run P w=.ok (.value (.slice (some ⟨w.heap.size,0,none⟩) len len)) { w with heap:=w.heap.push (.cells us (tt.at t).elem) }:=by
     simp only [execOp]
     rw [Sem.run_bind]
     unfold Instr.buildSlice
     simp only [Sem.run_bind,run_und hd,Result.andThen_ok,run_size hqe]
     rw [if_neg (by omega)]
     have hl0:¬ len*(tt.at (tt.at t).elem).sz=0:=by have:=Nat.mul_pos c0 c6; omega
     ·rw [if_neg hl0]
      simp only [Sem.run_bind,run_zero hqe,Result.andThen_ok,Sem.run_pure,zero_cells hqe]
      have e1:(parts.map fun (x:Nat × Operand)=>(x.1,a.eval x.2)).toList=parts.toList.map fun (i,x)=>(i,a.eval x):=by simp
      rw [e1,h1]
      simp only [Sem.run_bind,newRow,run_newObj,Result.andThen_ok,Sem.run_pure]
    refine wpi_of hrun (hK _ _ (.new ht (l:=⟨w.heap.size,none,0,0,0⟩) (hw.new h2 h3 _ rfl) ?_ ?_ h))
    ·simp only [AVR,grow_at]
    ·simp only [AV.ok]; omega
   ·exact h.elim
  ·exact h.elim
 | makeSlice t l c=>
  simp only [actA] at h
  split at h
  ·rename_i hk
   simp only [Bool.and_eq_true,beq_iff_eq] at hk
   have hq:=Tab.at_ok hT (Tab.has_of (t:=t) (by rw [hk.1]; decide))
   have hqe:=Tab.at_ok hT hk.2
   split at h
   ·rename_i cd k1 kl i k2 kc j hcd hl hc
    obtain ⟨hneed,hk'⟩:=h
    obtain ⟨⟨_,hi,hij⟩,hf⟩:=hneed
    simp only [std] at hf
    obtain ⟨hcok,hzero,hcsz⟩:=hqe.cd cd hcd
    obtain ⟨d,hd,hkd,hel,_⟩:=hq.und'
    rw [hk.1] at hkd
    cases d<;>simp [kindB] at hkd
    simp only [elemB] at hel
    subst hel
    obtain ⟨inf,hinf,hzr,hsz,hby⟩:=hqe.info'
    have hrun:(execOp a.eval { dst:=dst,op:=.makeSlice t l c,type:=ty,pos:=pos,after:=after,guard:=guard }).run P w=.ok (.value (.slice (some ⟨w.heap.size,0,none⟩) i.toNat j.toNat)) { w with heap:=w.heap.push (.cells ((Array.range (j.toNat*(tt.at (tt.at t).elem).sz)).map ((tt.at (tt.at t).elem).zero.toArray[· % (tt.at (tt.at t).elem).zero.toArray.size]!)) (tt.at t).elem) }:=by
     simp only [execOp,sv_eval ht hl,sv_eval ht hc]
     have:=run_make (P:=P) w t (tt.at t).elem inf _ hd hinf hzr kl kc i j hi hij (by rw [hby,Int.mul_comm]; omega) (by omega)
     rw [Sem.run_bind,this,hsz,zero_cells hqe]
     rfl
    have hz0:(tt.at (tt.at t).elem).zero.length=(tt.at (tt.at t).elem).sz:=hqe.sz.symm
    have hpos:0 < (tt.at (tt.at t).elem).sz:=by rw [<-hcsz]; exact hcok.pos
    refine wpi_of hrun (hK _ _ (.new ht (l:=⟨w.heap.size,some ⟨w.heap.size,0,none⟩,j.toNat,cd.sz,i.toNat⟩) (hw.newRow hcok rfl (by simp [std]) ?_ (below_push (Nat.le_refl _))) ?_ ?_ hk'))
    ·refine ⟨by rw [flat_length hcok]; simp [std],.inr ⟨w.heap.size,_,_,rfl,Nat.le_refl _,heap_push_at,by simp only; omega,?_,?_,?_⟩⟩
     ·simp only [maxLen]; omega
     ·simp [hcsz]
     ·rw [repL_eq _ _ hz0 hpos,repL_flat hzero,flat_take hcok]
      simp only [std,List.take_replicate]
      congr 2
      omega
    ·refine avr_s hi (by rw [grow_at]; simp only; omega) (by rw [grow_at])
    ·simp only [AV.ok]; omega
   ·exact h.elim
  ·exact h.elim
 | convert t1 t2 x=>
  simp only [actA] at h
  split at h
  ·rename_i hc
   simp only [Bool.and_eq_true,beq_iff_eq] at hc
   obtain ⟨⟨⟨⟨⟨c0,c1⟩,c2⟩,c3⟩,c4⟩,c5⟩:=hc
   split at h
   ·rename_i hik
    split at h
    ·rename_i b l he
     split at h
     ·rename_i ow e c xs hb
      obtain ⟨hneed,hk⟩:=h
      obtain ⟨⟨h1,h2,h3⟩,h4⟩:=ev_s ht he
      have hrb:=hw.hb b _ _ _ _ hb
      have hrd:=hw.reads hb
      have hn:=hrb.n
      have hsz1:c.sz=1:=by obtain ⟨m,hm⟩:=hneed c.z; rw [<-hrb.ok.len c.z,hm]; rfl
      have hlen:(std.tk c.α xs l).length=l.toNat:=by simp only [std,List.length_take]; omega
      have hrd':Reads w (β b).a c (std.tk c.α xs l):=by
       intro i x hx
       simp only [std,List.getElem?_take] at hx
       split at hx
       ·exact hrd i x hx
       ·cases hx
      have:=bytes_run (k:=(β b).cap) hT c1 c2 c3 c4 hik hrb.ok hsz1 hneed hrd'
      rw [hlen] at this
      refine wpi_of (w':=w) (v:=.string (std.b2s c.α c.enc (std.tk c.α xs l))) ?_ (hK _ _ (.same ht hw avr_v (by simp only [AV.ok]) hk))
      simp only [execOp,h3]
      exact run_value this
     ·exact h.elim
    ·rename_i b o' l he
     split at h
     ·rename_i ow e c xs hb
      obtain ⟨hneed,hk⟩:=h
      obtain ⟨⟨h1,h2,h3,d,k,h4,h5,h6⟩,h7⟩:=ev_w ht he
      have hrb:=hw.hb b _ _ _ _ hb
      have hrd:=hw.reads hb
      have hn:=hrb.n
      have hsz1:c.sz=1:=by obtain ⟨m,hm⟩:=hneed c.z; rw [<-hrb.ok.len c.z,hm]; rfl
      have hlen:(std.wnd c.α xs o' l).length=l.toNat:=by simp only [std,List.length_take,List.length_drop]; omega
      have hrd':Reads w d c (std.wnd c.α xs o' l):=by
       intro i x hx
       simp only [std,List.getElem?_take,List.getElem?_drop] at hx
       split at hx
       ·obtain ⟨b',hb',hcl⟩:=hrd _ x hx
        rw [h6 (by omega),hb',hrb.z]
        refine ⟨_,rfl,fun j u hu=>?_⟩
        rw [add_add,<-hcl j u hu,Nat.add_mul,Nat.add_assoc]
       ·cases hx
      have:=bytes_run (k:=k) hT c1 c2 c3 c4 hik hrb.ok hsz1 hneed hrd'
      rw [hlen] at this
      refine wpi_of (w':=w) (v:=.string (std.b2s c.α c.enc (std.wnd c.α xs o' l))) ?_ (hK _ _ (.same ht hw avr_v (by simp only [AV.ok]) hk))
      simp only [execOp,h4]
      exact run_value this
     ·exact h.elim
    ·obtain ⟨ys,⟨⟨d,k,hv,hr⟩⟩,hk⟩:=appA_news (tt:=tt) ht hw cB_ok h
     have:=bytes_run (k:=k) hT c1 c2 c3 c4 hik cB_ok rfl (fun y=>⟨y,rfl⟩) hr
     refine wpi_of (w':=w) (v:=.string (std.b2s Int cB.enc ys)) ?_ (hK _ _ (.same ht hw avr_v (by simp only [AV.ok]) hk))
     simp only [execOp,hv]
     exact run_value this
    ·exact h.elim
   ·exact h.elim
  ·exact h.elim
 | call c=>
  obtain ⟨callee,args,argTypes⟩:=c
  cases callee with
  | value f=>
   simp only [actA] at h
   split at h
   ·rename_i g first caps hf
    -- what comes back
    have fin:∀ (e:Ending) (w'':World),(∃ v x h' β',e=.returned v/\AVR β' x v/\x.ok h'.length/\RelW w0 β' h' w''/\Ext s.h.length β h' β'/\(match (generalizing:=false) n0 with
      | none=>K (({ s with h:=h' }:St).put dst x)
      | some _=>h'.take s.h.length=s.h/\K (({ s with h:=h' }:St).put dst x)))->∃ v,e=.returned v/\K' (a.put dst v) w'':=by
     rintro e w'' ⟨v,x,h',β',rfl,hxr,hxk,hw',hext,hk⟩
     have hk':(isStoreB (.call { callee:=.value f,args:=args,argTypes:=argTypes }) || n0.isNone)=false->h'.take s.h.length=s.h:=by
      intro e
      cases n0 with
      | none=>simp at e
      | some m=>exact hk.1
     have hk2:K (({ s with h:=h' }:St).put dst x):=by
      cases n0 with
      | none=>exact hk
      | some m=>exact hk.2
     refine ⟨v,rfl,hK _ _ ⟨_,β',?_,?_,?_,fun e=>?_,hk2⟩⟩
     ·rw [put_h]
      refine RelT.put (s:={ s with h:=h' }) ?_ hxr hxk dst
      exact ⟨AVRs_congr ht.ok hext.2 ht.rel,ht.defers,AV.oks_mono ht.ok hext.1⟩
     ·rw [put_h]; exact hw'
     ·rw [put_h]; exact hext
     ·rw [put_h]; exact hk' e
    obtain ⟨he1,he2⟩:=evs_rel ht args.toList
    -- a function
    have real:g ≠ yieldId->(∃ fs cs,a.eval f=.func (.func g) fs cs/\AVRs β first fs.toList/\AVRs β caps cs.toList/\AV.oks s.h.length first/\AV.oks s.h.length caps) ->
      Oper.wpIn (fen r) 0 P { dst:=dst,op:=.call { callee:=.value f,args:=args,argTypes:=argTypes },type:=ty,pos:=pos,after:=after,guard:=guard } a w K' Q:=by
     rintro hne ⟨fs,cs,hfv,hr1,hr2,hk1,hk2⟩
     have hct:=hC.1 _ _ _ _ h hne
     obtain ⟨hent,hout⟩:=hct.out w0 β w (fs++args.map a.eval++cs) hw (oks_append (oks_append hk1 he2) hk2) (by
      have:(fs++args.map a.eval++cs).toList=fs.toList++args.toList.map a.eval++cs.toList:=by simp
      rw [this]
      exact (hr1.append he1).append hr2)
     have hrun:(execOp a.eval { dst:=dst,op:=.call { callee:=.value f,args:=args,argTypes:=argTypes },type:=ty,pos:=pos,after:=after,guard:=guard }).run P w=(callFunc g (fs++args.map a.eval++cs)).run P w:=by
      simp only [execOp,resolve,hfv,Deferred.ofValue,Sem.run_bind,Sem.run_pure,Result.andThen_ok,invoke]
     refine ⟨fun f _=>trivial,?_⟩
     rw [Oper.semAt_eq _ _ _ (by intro c e; cases e),hrun,hent,Oper.uponIn_enter]
     refine ⟨fun e=>(by cases e),(calls_fen hout).mono fun e w'' hh=>?_⟩
     obtain ⟨v,rfl,hk⟩:=fin e w'' hh
     exact hk
    split at hf
    ·-- yield
     rename_i b he
     injection hf with hf; injection hf with h1 hf; injection hf with h2 h3
     subst h1; subst h2; subst h3
     obtain ⟨hfe,hblt⟩:=ev_at ht he
     simp only [AVR] at hfe
     simp only [List.cons_append,List.nil_append,List.append_nil] at h
     obtain ⟨fnr,tr,ar,br,hy,hR⟩:=(hC.2 _ _ _ _ h).out r w0 β w (args.map a.eval) hw he2 (by simpa using he1)
     have hrun:(execOp a.eval { dst:=dst,op:=.call { callee:=.value f,args:=args,argTypes:=argTypes },type:=ty,pos:=pos,after:=after,guard:=guard }).run P w=.ok (.round (β b).g fnr tr ar br) w:=by
      simp only [execOp,resolve,hfe,Deferred.ofValue,Sem.run_bind,Sem.run_pure,Result.andThen_ok,invoke]
      simpa using hy
     refine ⟨fun f _=>trivial,?_⟩
     rw [Oper.semAt_eq _ _ _ (by intro c e; cases e),hrun,Oper.uponIn_round]
     refine ⟨fun e=>(by cases e),hR.mono fun e w'' hh=>?_⟩
     obtain ⟨v,rfl,hk⟩:=fin e w'' hh
     exact hk
    ·rename_i g' fs cs he
     obtain ⟨h0,h1,h2,h3⟩:=realA_some hf
     subst h1; subst h2; subst h3
     exact real h0 ⟨fs,cs,ev_c ht he,AVRs.vs _,AVRs.vs _,oks_vs _,oks_vs _⟩
    ·rename_i g' fs cs he
     obtain ⟨h0,h1,h2,h3⟩:=realA_some hf
     subst h1; subst h2; subst h3
     exact real h0 ⟨fs,cs,ev_v ht he,AVRs.vs _,AVRs.vs _,oks_vs _,oks_vs _⟩
    ·rename_i g' fs cs he
     obtain ⟨h0,h1,h2,h3⟩:=realA_some hf
     subst h1; subst h2; subst h3
     have:=ev_at ht he
     simp only [AVR,AV.ok] at this
     obtain ⟨⟨fs',cs',h1,h2,h3⟩,h4,h5⟩:=this
     exact real h0 ⟨fs',cs',h1,h2,h3,h4,h5⟩
    ·cases hf
   ·exact h.elim
  | builtin bn=>
   cases bn with
   | append=>
    simp only [actA] at h
    split at h
    ·rename_i x y t t' ha hta
     have ha':args=#[x,y]:=by apply Array.ext'; simpa using ha
     have hb':argTypes=#[t,t']:=by apply Array.ext'; simpa using hta
     subst ha'; subst hb'
     split at h
     ·rename_i hc
      simp only [Bool.and_eq_true,beq_iff_eq] at hc
      obtain ⟨⟨htt,hk⟩,hel⟩:=hc
      subst htt
      have hq:=Tab.at_ok hT (Tab.has_of (t:=t) (by rw [hk]; decide))
      have hqe:=Tab.at_ok hT hel
      split at h
      ·rename_i cd hcd
       obtain ⟨hcok,hzero,hcsz⟩:=hqe.cd cd hcd
       split at h
       ·rename_i hnil
        have hx:a.eval x=.slice none 0 0:=by
         unfold Op.isNil at hnil
         split at hnil
         ·rename_i he; exact ev_c ht he
         ·rename_i he; exact ev_v ht he
         ·cases hnil
        obtain ⟨ys,hn,hneed,hk'⟩:=appA_news (tt:=tt) ht hw hcok h
        simp only [std] at hneed
        obtain ⟨d',cap',w',h1,h2,h3,h4⟩:=append_run (ty:=ty) hq hk hqe hcok hcsz (base:=w.heap.size) (Nat.le_refl _) (d:=none) (cap:=0) (xs:=[]) (ys:=ys) (World.ownsRow_nil _ _ _ _) hn (by simpa [std] using hneed)
        simp only [List.length_nil,Nat.zero_add,List.nil_append] at h1 h2
        have hgb:Below w.heap.size w w':=⟨h3.os,h3.tape,h3.output,h3.size,fun k hk=>h3.block k hk (by simp)⟩
        refine wpi_of (callAppend rfl (by rw [hx]; exact h1)) (hK _ _ (.new ht (l:=⟨0,d',cap',cd.sz,ys.length⟩) (hw.newRow hcok rfl rfl h2 hgb) ?_ ?_ hk'))
        ·refine avr_s (by simp only [std]; omega) (by rw [grow_at]; simp [std]) (by rw [grow_at]; simp [std])
        ·simp only [AV.ok]; omega
       ·split at h
        ·rename_i b l he
         split at h
         ·rename_i e c xs hb
          split at h
          ·rename_i hcc
           simp only [Bool.and_eq_true,beq_iff_eq] at hcc
           obtain ⟨hee,hcz⟩:=hcc
           subst hee
           obtain ⟨⟨q1,q2,q3⟩,q4⟩:=ev_s ht he
           have hrb:=hw.hb b _ _ _ _ hb
           split at h
           ·rename_i o' m hir
            obtain ⟨hneed,hk'⟩:=h
            simp only [std] at hneed
            have hy:ev s y=.w b o' m:=inRow_some hir
            obtain ⟨⟨p1,p2,p3,d2,c2,p4,p5,p6⟩,p7⟩:=ev_w ht hy
            have hln:=hrb.n
            obtain ⟨w',r1,r2⟩:=appIn_run (ty:=ty) hT hw hk hel hb hcz (l:=l) (o:=o') (m:=m) q1 p1 p2 (by omega) (by omega) p6 p5
            refine wpi_of (callAppend rfl (by rw [q3,p4]; exact r1)) (hK _ _ ?_)
            refine ⟨_,β,?_,?_,?_,fun e=>by simp [isStoreB] at e,hk'⟩
            ·rw [put_h]
             have e1:(s.h.set b (.row true (tt.at t).elem c (std.app c.α (std.tk c.α xs l) (std.app c.α (std.wnd c.α xs o' m) (std.wnd c.α xs (std.ad l m) (std.sb (std.len c.α xs) (std.ad l m))))))).length=s.h.length:=by simp
             show RelT _ _ (s.h.set b _).length _ _
             rw [e1]
             refine RelT.put (s:={ s with h:=s.h.set b (.row true (tt.at t).elem c (std.app c.α (std.tk c.α xs l) (std.app c.α (std.wnd c.α xs o' m) (std.wnd c.α xs (std.ad l m) (std.sb (std.len c.α xs) (std.ad l m)))))) }) ht ?_ ?_ dst
             ·refine avr_s (by simp only [std]; omega) (by simp only [std]; omega) (by simp only [std])
             ·simp only [AV.ok]; omega
            ·rw [put_h]; exact r2
            ·rw [put_h]; exact ⟨by simp,fun _ _=>rfl⟩
           ·rename_i hir
            obtain ⟨ys,hn,hneed,hk'⟩:=appA_news (tt:=tt) ht hw hrb.ok h
            obtain ⟨_,_,_,hown⟩:=hw.blk b _ hb
            have hln:=hrb.n
            rw [hln] at hown
            have hlx:l.toNat<=xs.length:=by omega
            have hpre:=ownsRow_prefix hrb.ok hown hlx
            have hlt:(xs.take l.toNat).length=l.toNat:=by rw [List.length_take]; omega
            have hpre':w.ownsRow w0.heap.size (tt.at t).elem c.sz (.slice (β b).a (xs.take l.toNat).length (β b).cap) (xs.take l.toNat).length ((xs.take l.toNat).flatMap c.enc):=by
             rw [hlt]
             refine ownsRow_base hpre (fun d hd=>?_)
             exact hw.mine b _ d.block hb (by simp [Blk.occ,hd])
            simp only [std] at hneed
            have hfit:std.fits (((xs.take l.toNat).length:Int)+ys.length) (tt.at (tt.at t).elem).bytes:=by
             simp only [std]
             rw [hlt,toNat_cast q1]; exact hneed
            obtain ⟨d',cap',w',h1,h2,h3,h4⟩:=append_run (ty:=ty) hq hk hqe hrb.ok hcz hle (xs:=xs.take l.toNat) (ys:=ys) hpre' hn hfit
            have hkill:=hw.kill b
            have hm:∀ k,(β b).a.map (·.block)=some k->w0.heap.size<=k/\(∀ (i:Nat) c,(s.h.set b .dead)[i]?=some c->c.occ (β i) ≠ some k)/\(∀ (i:Nat) e c xs,(s.h.set b .dead)[i]?=some (.row false e c xs)->xs ≠ []->∀ d,(β i).a=some d->d.block ≠ k):=by
             intro k hk
             have hocc:(Blk.row true (tt.at t).elem c xs).occ (β b)=some k:=by simp only [Blk.occ]; exact hk
             refine ⟨hw.mine b _ k hb hocc,fun i c' hi ho=>?_,fun i e c' xs' hi hx d hd=>?_⟩
             ·rw [List.getElem?_set] at hi
              split at hi
              ·injection hi with hi; subst hi; simp [Blk.occ] at ho
              ·rename_i hne; exact hne (hw.inj b i _ c' k hb hi hocc ho)
             ·rw [List.getElem?_set] at hi
              split at hi
              ·injection hi with hi; cases hi
              ·exact hw.ro i b e c' xs' _ k hi hx hb hocc d hd
            have hstep:=hkill.step' h3 hm (fun g hg e=>by
             have hocc:(Blk.row true (tt.at t).elem c xs).occ (β b)=some g:=e
             exact hw.mk_ne hg hb hocc rfl)
            have hlenset:(s.h.set b .dead).length=s.h.length:=by simp
            have hadd:=hstep.add (b:=.row true (tt.at t).elem c (xs.take l.toNat++ys)) (l:=⟨0,d',cap',c.sz,(xs.take l.toNat).length+ys.length⟩) ⟨hrb.ok,rfl,by simp,ownsRow_base h2 (fun _ _=>Nat.zero_le _)⟩ trivial (by
             intro k hk
             simp only [Blk.occ] at hk
             have hob:(Value.slice d' ((xs.take l.toNat).length+ys.length) cap').ownBlock=some k:=by
              cases d' with
              | none=>simp at hk
              | some x=>simpa [Value.ownBlock] using hk
             rcases h4 with h4 | h4
             ·rw [hob] at h4; exact hm k h4.symm
             ·rw [hob] at h4; injection h4 with h4; subst h4
              refine ⟨hle,fun i c' hi ho=>?_,fun i e c' xs' hi hx d hd e2=>?_⟩
              ·have:=hkill.occ_lt hi ho; omega
              ·have:=hkill.ro_lt hi hx hd; omega) (fun _ _ _ e=>by cases e)
            rw [hlenset] at hadd
            refine wpi_of (callAppend rfl (by rw [q3]; rw [hlt] at h1; exact h1)) (hK _ _ ?_)
            refine ⟨_,grow β s.h.length ⟨0,d',cap',c.sz,(xs.take l.toNat).length+ys.length⟩,?_,?_,?_,fun e=>by simp [isStoreB] at e,hk'⟩
            ·rw [put_h]
             have e1:(St.new { s with h:=s.h.set b .dead } (.row true (tt.at t).elem c (std.app c.α (std.tk c.α xs l) ys))).h.length=s.h.length+1:=by simp [St.new]
             rw [e1]
             refine RelT.put (s:=St.new { s with h:=s.h.set b .dead } (.row true (tt.at t).elem c (std.app c.α (std.tk c.α xs l) ys))) (ht.grow _) ?_ ?_ dst
             ·refine avr_s (by simp only [std]; omega) ?_ ?_
              ·rw [grow_at]; simp only [std]; rw [hlt]; omega
              ·rw [grow_at]; simp only [std]; congr 1; omega
             ·simp only [AV.ok]; omega
            ·rw [put_h]; exact hadd
            ·rw [put_h]; exact ⟨by simp [St.new],fun i hi=>grow_lt hi⟩
          ·exact h.elim
         ·exact h.elim
        ·exact h.elim
      ·exact h.elim
     ·split at h
      ·rename_i hc2
       simp only [Bool.and_eq_true,beq_iff_eq] at hc2
       obtain ⟨⟨⟨hk,hel⟩,hk5⟩,hnil⟩:=hc2
       have hq:=Tab.at_ok hT (Tab.has_of (t:=t) (by rw [hk]; decide))
       have hq':=Tab.at_ok hT (Tab.has_of (t:=t') (by rw [hk5]; decide))
       have hqe:=Tab.at_ok hT hel
       split at h
       ·rename_i cd k1 kl i hcd hl
        obtain ⟨hneed,hk'⟩:=h
        obtain ⟨⟨_,hi,_⟩,hf⟩:=hneed
        simp only [std] at hf
        obtain ⟨hcok,hzero,hcsz⟩:=hqe.cd cd hcd
        have hx:a.eval x=.slice none 0 0:=by
         unfold Op.isNil at hnil
         split at hnil
         ·rename_i he; exact ev_c ht he
         ·rename_i he; exact ev_v ht he
         ·cases hnil
        have hy:a.eval y=.int kl i:=sv_eval ht hl
        obtain ⟨d,hd,hkd,hel2,_⟩:=hq.und'
        rw [hk] at hkd
        cases d<;>simp [kindB] at hkd
        simp only [elemB] at hel2
        subst hel2
        obtain ⟨d2,hd2,hkd2,_⟩:=hq'.und'
        rw [hk5] at hkd2
        cases d2<;>simp [kindB] at hkd2
        obtain ⟨inf,hinf,hzr,hsz,hby⟩:=hqe.info'
        have hz0:(tt.at (tt.at t).elem).zero.length=(tt.at (tt.at t).elem).sz:=hqe.sz.symm
        have hpos:0 < (tt.at (tt.at t).elem).sz:=by rw [<-hcsz]; exact hcok.pos
        obtain ⟨n0,hn0⟩:∃ n0:Nat,i=(n0:Int):=⟨i.toNat,by omega⟩
        subst hn0
        have hmax:n0<=maxLen:=by simp only [maxLen]; omega
        have hr:=Go.Lib.run_append_nil_zeros (P:=P) w t t' ty (tt.at t).elem inf _ kl _ hd hd2 hinf hzr n0 (by omega) (by rw [hsz]; exact hpos) (by omega) (by
         have h2:((n0*inf.bytes:Nat):Int)<=140737488355328:=by rw [hby,Int.natCast_mul]; exact hf.2.2
         omega)
        have hgb:∀ ob:Obj,Below w.heap.size w (w.drew.alloc ob):=fun ob=>⟨rfl,rfl,rfl,by simp,fun k hk=>heap_alloc_old w.drew _ hk⟩
        have hge:=grownCap_ge w n0 0 (tt.at t).elem
        have hcm:=grownCap_le_maxLen w n0 0 (tt.at t).elem hmax
        refine wpi_of (callAppend2 rfl (by rw [hx,hy]; exact hr)) (hK _ _ (.new ht (l:=⟨w.heap.size,some ⟨w.heap.size,0,none⟩,grownCap w n0 0 (tt.at t).elem,cd.sz,n0⟩) (hw.newRow hcok rfl (by simp [std]) ?_ (hgb _)) ?_ ?_ hk'))
        ·refine ⟨by rw [flat_length hcok]; simp [std],.inr ⟨w.heap.size,_,_,rfl,Nat.le_refl _,heap_alloc_new w.drew _,hge,hcm,?_,?_⟩⟩
         ·rw [zero_cells hqe]
          simp only [Array.size_append,size_zeroCells,List.size_toArray,hz0,hcsz,<-Nat.add_mul]
          congr 1
          omega
         ·rw [zero_cells hqe,Array.toList_append]
          have e1:=repL_eq (tt.at (tt.at t).elem).zero (tt.at (tt.at t).elem).sz hz0 hpos n0
          have e2:(Builtin.zeroCells (tt.at (tt.at t).elem).zero.toArray n0).toList=repL n0 (tt.at (tt.at t).elem).zero:=by
           rw [<-e1]; unfold Builtin.zeroCells; simp [hz0]
          rw [e2,repL_flat hzero]
          have e3:((List.replicate n0 cd.z).flatMap cd.enc).length=n0*cd.sz:=by rw [flat_length hcok,List.length_replicate]
          rw [List.take_append_of_le_length (by rw [e3]; exact Nat.le_refl _),List.take_of_length_le (by rw [e3]; exact Nat.le_refl _)]
          simp [std]
        ·refine avr_s (by omega) (by rw [grow_at]; simp) (by rw [grow_at]; simp)
        ·simp only [AV.ok]; omega
       ·exact h.elim
      ·exact h.elim
    ·exact h.elim
   | clear=>
    simp only [actA] at h
    split at h
    ·rename_i x t ha hta
     have ha':args=#[x]:=by apply Array.ext'; simpa using ha
     have hb':argTypes=#[t]:=by apply Array.ext'; simpa using hta
     subst ha'; subst hb'
     split at h
     ·rename_i hc
      simp only [Bool.and_eq_true,beq_iff_eq] at hc
      obtain ⟨hk,hel⟩:=hc
      split at h
      ·rename_i b p l he
       split at h
       ·rename_i e c xs hb
        obtain ⟨⟨hzz,hsum⟩,hk'⟩:=h
        obtain ⟨⟨q1,q2,q3,d,cap,q4,q5,q6⟩,q7⟩:=ev_w ht he
        have hrb:=hw.hb b _ _ _ _ hb
        obtain ⟨w',r1,r2⟩:=clearRow_run (ty:=ty) hT hw hk hel hb hzz q1 q2 hsum.2.2 q6 (cap:=cap)
        refine wpi_of (callClear rfl (by rw [q4]; exact r1)) (hK _ _ ?_)
        refine ⟨_,β,?_,?_,?_,fun e=>by simp at e,hk'⟩
        ·rw [put_h]
         have e1:(s.h.set b (.row true e c (std.app c.α (std.tk c.α xs p) (std.app c.α (std.rep c.α l c.z) (std.wnd c.α xs (std.ad p l) (std.sb (std.len c.α xs) (std.ad p l))))))).length=s.h.length:=by simp
         show RelT _ _ (s.h.set b _).length _ _
         rw [e1]
         exact RelT.put (s:={ s with h:=s.h.set b (.row true e c (std.app c.α (std.tk c.α xs p) (std.app c.α (std.rep c.α l c.z) (std.wnd c.α xs (std.ad p l) (std.sb (std.len c.α xs) (std.ad p l)))))) }) ht (y:=.tuple #[]) (by simp only [AVR]) (by simp only [AV.ok]) dst
        ·rw [put_h]; exact r2
        ·rw [put_h]; exact ⟨by simp,fun _ _=>rfl⟩
       ·exact h.elim
      ·exact h.elim
     ·exact h.elim
    ·exact h.elim
   | _=>simp only [actA] at h
  | _=>simp only [actA] at h
 | _=>simp only [actA] at h
end
end Go.Proofs.YtkipmmiiackdaaaGreat.Sx
