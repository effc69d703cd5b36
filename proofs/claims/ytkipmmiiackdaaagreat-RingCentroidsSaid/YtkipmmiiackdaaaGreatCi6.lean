/- Part 6 of what the statement needs: an executor of Go texts, arithmetic, and contracts of the functions that are called. -/
import Derived.Test.YtkipmmiiackdaaaGreatCi5
set_option linter.unusedSimpArgs false
set_option linter.unusedVariables false
namespace Go.Proofs.YtkipmmiiackdaaaGreat.Sx
open Env (std)
open Go.RowKit Go.Proofs.YtkipmmiiackdaaaGreatW.PrintLast Go.Proofs.YtkipmmiiackdaaaGreatW.PrintWords
section
variable {P:Program} {β:Nat->Loc} {n:Nat} {s:St} {a:Act} {ds:List Deferred}
/-- A world that goes on, but for one block that nobody has. -/
theorem RelW.step' {w0:Base} {w w':World} {h:List Blk} (hw:RelW w0 β h w) {r:Option Nat} (hb:w.grownBy w' r) (hm:∀ k,r=some k->w0.heap.size<=k/\(∀ (i:Nat) c,h[i]?=some c->c.occ (β i) ≠ some k)/\(∀ (i:Nat) e c xs,h[i]?=some (.row false e c xs)->xs ≠ []->∀ d,(β i).a=some d->d.block ≠ k)) (hn:∀ g ∈ w0.M,r ≠ some g):RelW w0 β h w':=by
 refine ⟨hw.below.grown hb hw.below.size (fun k hk=>(hm k hk).1),fun i b hi=>?_,hw.mine,hw.inj,hw.ro,hw.okh,fun g hg=>⟨(hw.mks g hg).1,by rw [hb.block g (hw.mk_lt hg) (fun e=>hn g hg e.symm)]; exact (hw.mks g hg).2⟩,hw.nd⟩
 refine (hw.blk i b hi).kept (hw.okh b (List.mem_of_getElem? hi)) (fun _ _=>rfl) (fun g hg=>hb.block g (hw.occ_lt hi hg) (fun e=>(hm g e.symm).2.1 i b hi hg)) (fun e c xs he hx d hd=>?_)
 subst he
 exact hb.block _ (hw.ro_lt hi hx hd) (fun e1=>(hm _ e1.symm).2.2 i e c xs hi hx d hd rfl)
theorem cB_ok:cB.Ok:=by
 refine ⟨fun x=>rfl,fun x u hu=>?_,fun l x h=>?_,by decide⟩
 ·simp [cB] at hu; subst hu; rfl
 ·simp only [cB] at h ⊢
  split at h
  ·injection h with h; subst h; rfl
  ·cases h
/-- What is read off a value of a slice: so many elements there. -/
structure News (w:World) (v:Value) (c:Cd) (ys:List c.α):Prop where
 v:∃ d k,v=.slice d ys.length k/\Reads w d c ys
theorem reads_news {w:World} {c:Cd} (hc:c.Ok) {d:Addr} {ys:List c.α} (h:Reads w (some d) c ys):∀ j u,(ys.flatMap c.enc)[j]?=some u->w.cell? (d.add j)=some u:=by
 intro j u hu
 have hj:j < ys.length*c.sz:=by rw [<-flat_length hc]; exact (List.getElem?_eq_some_iff.1 hu).1
 have hp:=hc.pos
 have h1:j / c.sz < ys.length:=Nat.div_lt_of_lt_mul (by rw [Nat.mul_comm]; exact hj)
 have h2:j % c.sz < c.sz:=Nat.mod_lt _ hp
 have h3:j / c.sz*c.sz+j % c.sz=j:=by rw [Nat.mul_comm]; exact Nat.div_add_mod _ _
 obtain ⟨b,hb,hcl⟩:=h (j / c.sz) _ (List.getElem?_eq_getElem h1)
 injection hb with hb; subst hb
 have hx:j % c.sz < (c.enc ys[j / c.sz]).length:=by rw [hc.len]; exact h2
 have:=hcl (j % c.sz) _ (List.getElem?_eq_getElem hx)
 have hf:=flat_get hc (List.getElem?_eq_getElem h1) (List.getElem?_eq_getElem hx)
 rw [h3] at this hf
 rw [this,<-hu,hf]
theorem appA_news {tt:Tab} {w0:Base} {w:World} (ht:RelT ds β n s.t a) (hw:RelW w0 β s.h w) {c:Cd} (hc:c.Ok) {y:Operand} {K:List c.α->Prop} (h:appA std s c (ev s y) K):∃ ys,News w (a.eval y) c ys/\K ys:=by
 unfold appA at h
 split at h
 ·rename_i b o l k he
  split at h
  ·rename_i cs ty hb
   split at h
   ·rename_i us hus
    split at h
    ·rename_i hl
     split at h
     ·rename_i ys hys
      obtain ⟨h1,h2⟩:=ev_q ht he
      obtain ⟨vs,hg,hvs⟩:=hw.blk b _ hb
      have hr:=plain_rel hus ((hvs.drop o).take (l*c.sz))
      have hlen:us.length=l*c.sz:=by simpa using hl
      have key:∀ (m:Nat) (us:List Value) (ys:List c.α),us.length=m*c.sz->decAll c m us=some ys->ys.length=m/\ys.flatMap c.enc=us:=by
       intro m
       induction m with
       | zero=>intro us ys h1 h2; simp only [decAll] at h2; injection h2 with h2; subst h2; simp at h1; simp [h1]
       | succ m ih=>
        intro us ys h1 h2
        simp only [decAll] at h2
        split at h2
        ·rename_i x xs e1 e2
         injection h2 with h2; subst h2
         obtain ⟨h3,h4⟩:=ih _ _ (by rw [List.length_drop,h1,Nat.succ_mul]; omega) e2
         refine ⟨by simp [h3],?_⟩
         rw [List.flatMap_cons,h4,hc.dec _ _ e1]
         exact List.take_append_drop _ _
        ·cases h2
      obtain ⟨h3,h4⟩:=key l us ys hlen hys
      refine ⟨ys,⟨⟨_,_,by rw [h1,h3],fun i x hx=>⟨_,rfl,fun j u hu=>?_⟩⟩⟩,h⟩
      have:=flat_get hc hx hu
      rw [h4,<-hr,List.getElem?_take] at this
      split at this
      ·rw [List.getElem?_drop,Array.getElem?_toList] at this
       rw [add_own,cell_own hg]; exact this
      ·cases this
     ·exact h.elim
    ·exact h.elim
   ·exact h.elim
  ·exact h.elim
 ·rename_i b l he
  split at h
  ·rename_i ow e c' ys hb
   obtain ⟨zs,hs,hk⟩:=h
   obtain ⟨⟨h1,h2,h3⟩,h4⟩:=ev_s ht he
   have hrb:=hw.hb b _ _ _ _ hb
   have hrd:=hw.reads hb
   have h5:=hrb.n
   cases hs
   refine ⟨_,⟨⟨(β b).a,(β b).cap,?_,fun i x hx=>?_⟩⟩,hk⟩
   ·rw [h3]; simp only [std,List.length_take]; congr 1; omega
   ·simp only [std,List.getElem?_take] at hx
    split at hx
    ·exact hrd i x hx
    ·cases hx
  ·exact h.elim
 ·rename_i b o l he
  split at h
  ·rename_i ow e c' ys hb
   obtain ⟨zs,hs,hk⟩:=h
   obtain ⟨⟨h1,h2,h3,d,k,h4,h5,h6⟩,h7⟩:=ev_w ht he
   have hrb:=hw.hb b _ _ _ _ hb
   have hrd:=hw.reads hb
   have h8:=hrb.n
   cases hs
   refine ⟨_,⟨⟨d,k,?_,fun i x hx=>?_⟩⟩,hk⟩
   ·rw [h4]; simp only [std,List.length_take,List.length_drop]; congr 1; omega
   ·simp only [std,List.getElem?_take,List.getElem?_drop] at hx
    split at hx
    ·rename_i hlt
     obtain ⟨b',hb',hcl⟩:=hrd _ x hx
     rw [h6 (by omega),hb',hrb.z]
     refine ⟨_,rfl,fun j u hu=>?_⟩
     rw [add_add,<-hcl j u hu,Nat.add_mul,Nat.add_assoc]
    ·cases hx
  ·exact h.elim
 ·exact h.elim
theorem append_nothing {t ty e:TypeId} {i:TypeInfo} (ht:P.underlying t=some (.slice e)) (hi:P.info? e=some i) {d:Option Addr} {l cap k:Nat} (hl:l<=cap) (w:World) :
  (Builtin.append_ #[t,t] ty #[.slice d l cap,.slice none 0 k]).run P w=.ok (.slice d l cap) w:=by
 cases d<;>simp [Builtin.append_,run_underlying ht,sizeOf,typeInfo,hi,Builtin.lenOf,Builtin.firstCells,hl,storeCells]
/-- append, onto a row of its own. -/
theorem append_run {t ty:TypeId} {ti te:TI} (hq:TyOk P t ti) (hk:ti.kind=3) (he:TyOk P ti.elem te) {c:Cd} (hc:c.Ok) (hz:c.sz=te.sz) {w:World} {base:Nat} (hbase:base<=w.heap.size) {d:Option Addr} {cap:Nat} {xs ys:List c.α} (ho:w.ownsRow base ti.elem c.sz (.slice d xs.length cap) xs.length (xs.flatMap c.enc))
  {v:Value} (hn:News w v c ys) (hf:std.fits ((xs.length:Int)+ys.length) te.bytes) :
  ∃ d' cap' w',(Builtin.append_ #[t,t] ty #[.slice d xs.length cap,v]).run P w=.ok (.slice d' (xs.length+ys.length) cap') w'/\w'.ownsRow base ti.elem c.sz (.slice d' (xs.length+ys.length) cap') (xs.length+ys.length) ((xs++ys).flatMap c.enc)/\w.grownBy w' (d.map (·.block)) /\
   ((Value.slice d' (xs.length+ys.length) cap').ownBlock=d.map (·.block)\/(Value.slice d' (xs.length+ys.length) cap').ownBlock=some w.heap.size):=by
 obtain ⟨ds,hd,hkd,hel,_⟩:=hq.und'
 rw [hk] at hkd
 cases ds<;>simp [kindB] at hkd
 simp only [elemB] at hel
 subst hel
 obtain ⟨i,hi,hzr,hsz,hby⟩:=he.info'
 obtain ⟨⟨k1,k2,hv,hr⟩⟩:=hn
 subst hv
 simp only [std] at hf
 have hob:(Value.slice d xs.length cap).ownBlock=d.map (·.block):=by cases d<;>rfl
 have hcap:=(ownsRow_some (xs:=xs.flatMap c.enc) (w:=w) (e:=ti.elem) (sz:=c.sz) (n:=xs.length) (c:=cap) (d:=d) ⟨ho.1,by
  rcases ho.2 with h | ⟨g,cap',cur,h1,_,h2⟩
  ·exact .inl h
  ·exact .inr ⟨g,cap',cur,h1,Nat.zero_le _,h2⟩⟩).2
 cases k1 with
 | none=>
  have hys:ys=[]:=by
   cases ys with
   | nil=>rfl
   | cons y ys=>obtain ⟨_,h,_⟩:=hr 0 y rfl; cases h
  subst hys
  simp only [List.length_nil,Nat.add_zero,List.append_nil]
  exact ⟨d,cap,w,append_nothing hd hi hcap w,ho,⟨rfl,rfl,rfl,Nat.le_refl _,fun _ _ _=>rfl⟩,.inl hob⟩
 | some ad=>
  have hbytes:(xs.length+ys.length)*te.bytes<=140737488355328:=by
   have:=hf.2.2
   have h2:(((xs.length+ys.length)*te.bytes:Nat):Int)<=140737488355328:=by
    rw [Int.natCast_mul,Int.natCast_add]; exact this
   omega
  have hone:∀ u ∈ ys.flatMap c.enc,u.oneCell'=true:=by
   intro u hu
   obtain ⟨y,_,hy⟩:=List.mem_flatMap.1 hu
   exact hc.one y u hy
  obtain ⟨v',w',h1,h2,h3,_,h5⟩:=run_append_own_at (P:=P) w base t ty ti.elem i _ c.sz te.bytes hd hi hzr (by rw [hsz,hz]) hby (by rw [zero_cells he,hz,he.sz]; simp) hc.pos _ _ _ ho ad ys.length k2 (ys.flatMap c.enc) (flat_length hc ys) (reads_news hc hr) hone (by simp only [maxLen]; omega) hbytes hbase
  rw [<-List.flatMap_append] at h2
  have hv':∃ d' cap',v'=.slice d' (xs.length+ys.length) cap':=by
   rcases h2.2 with ⟨h,h'⟩ | ⟨g,cap',cur,h,_⟩
   ·exact ⟨none,0,by rw [h,h']⟩
   ·exact ⟨_,_,h⟩
  obtain ⟨d',cap',rfl⟩:=hv'
  exact ⟨d',cap',w',h1,h2,by rw [<-hob]; exact h3,by rw [<-hob]; exact h5⟩
theorem ownsRow_base {w:World} {e:TypeId} {sz:Nat} {d:Option Addr} {n k b b':Nat} {xs:List Value} (h:w.ownsRow b e sz (.slice d n k) n xs) (hb:∀ x,d=some x->b'<=x.block):w.ownsRow b' e sz (.slice d n k) n xs:=by
 refine ⟨h.1,?_⟩
 rcases h.2 with h1 | ⟨g,cap,cur,h1,_,h2⟩
 ·exact .inl h1
 ·refine .inr ⟨g,cap,cur,h1,?_,h2⟩
  injection h1 with h1 _ _
  exact hb _ h1
theorem clear_none {t ty e:TypeId} (ht:P.underlying t=some (.slice e)) (d:Option Addr) (cap:Nat) (w:World):(Builtin.clear_ #[t] ty #[.slice d 0 cap]).run P w=.ok (.tuple #[]) w:=by
 cases d<;>simp [Builtin.clear_,run_underlying ht]
theorem list_set_same {α:Type _} {h:List α} {b:Nat} {x:α} (hb:h[b]?=some x):h.set b x=h:=by
 apply List.ext_getElem?
 intro j
 rw [List.getElem?_set]
 split
 ·rename_i hj
  subst hj
  have:=(List.getElem?_eq_some_iff.1 hb).1
  first
   | (rw [if_pos this]; exact hb.symm)
   | exact hb.symm
 ·rfl
theorem append_zero {t ty e:TypeId} {i:TypeInfo} (ht:P.underlying t=some (.slice e)) (hi:P.info? e=some i) {d d':Option Addr} {l cap k:Nat} (hl:l<=cap) (w:World) :
  (Builtin.append_ #[t,t] ty #[.slice d l cap,.slice d' 0 k]).run P w=.ok (.slice d l cap) w:=by
 cases d<;>cases d'<;>simp [Builtin.append_,run_underlying ht,sizeOf,typeInfo,hi,Builtin.lenOf,Builtin.firstCells,hl,storeCells,loadCells,loadCellsFrom]
theorem flat_drop {c:Cd} (hc:c.Ok):∀ (xs:List c.α) (k:Nat),(xs.flatMap c.enc).drop (k*c.sz)=(xs.drop k).flatMap c.enc
 | [],k=>by simp
 | x::xs,0=>by simp
 | x::xs,k+1=>by
  simp only [List.flatMap_cons,List.drop_succ_cons]
  rw [List.drop_append,hc.len,Nat.succ_mul]
  have e:k*c.sz+c.sz - c.sz=k*c.sz:=by omega
  rw [e,flat_drop hc xs k,List.drop_of_length_le (by rw [hc.len]; omega)]
  simp
theorem inRow_some {b:Nat} {x:AV} {o l:Int} (h:inRow b x=some (o,l)):x=.w b o l:=by
 unfold inRow at h
 split at h
 ·split at h
  ·rename_i b' o' l' hb
   have e:b'=b:=by simpa using hb
   injection h with h; injection h with h1 h2
   rw [e,h1,h2]
  ·cases h
 ·cases h
/-- append onto the first l of a row of its own what lies in the same row, where there is room in it. -/
theorem appIn_run {tt:Tab} (hT:TabOk P tt) {w0:Base} {w:World} {h:List Blk} (hw:RelW w0 β h w) {t ty:TypeId} (hk:(tt.at t).kind=3) (hel:tt.has (tt.at t).elem=true) {b:Nat} {c:Cd} {xs:List c.α} (hb:h[b]?=some (.row true (tt.at t).elem c xs)) (hz:c.sz=(tt.at (tt.at t).elem).sz)
  {l o m:Int} (h0:0<=l) (h1:0<=o) (h2:0<=m) (h3:l+m<=xs.length) (h4:o+m<=xs.length) {d:Option Addr} {cap:Nat} (hd:0 < m->d=(β b).a.map (·.add (o.toNat*(β b).z))) (hcap:m.toNat<=cap) :
  ∃ w',(Builtin.append_ #[t,t] ty #[.slice (β b).a l.toNat (β b).cap,.slice d m.toNat cap]).run P w=.ok (.slice (β b).a (l+m).toNat (β b).cap) w' /\
   RelW w0 β (h.set b (.row true (tt.at t).elem c (xs.take l.toNat++((xs.drop o.toNat).take m.toNat++(xs.drop (l+m).toNat).take ((xs.length:Int) - (l+m)).toNat)))) w':=by
 have hq:=Tab.at_ok hT (Tab.has_of (t:=t) (by rw [hk]; decide))
 have hqe:=Tab.at_ok hT hel
 obtain ⟨ds,hds,hkd,hell,_⟩:=hq.und'
 rw [hk] at hkd
 cases ds<;>simp [kindB] at hkd
 simp only [elemB] at hell
 subst hell
 obtain ⟨hc,hzz,hn,ho⟩:=hw.blk b _ hb
 obtain ⟨i,hi,hzr,hsz,hby⟩:=hqe.info'
 have hcapb:xs.length<=(β b).cap:=by have:=(hw.hb b _ _ _ _ hb).cap; omega
 by_cases hm:m=0
 ·subst hm
  have e1:xs.take l.toNat++((xs.drop o.toNat).take (0:Int).toNat++(xs.drop (l+0).toNat).take ((xs.length:Int) - (l+0)).toNat)=xs:=by
   have e2:(xs.drop (l+0).toNat).take ((xs.length:Int) - (l+0)).toNat=xs.drop l.toNat:=by
    rw [Int.add_zero]
    exact List.take_of_length_le (by rw [List.length_drop]; omega)
   rw [e2]; simp
  refine ⟨w,?_,?_⟩
  ·have e3:(0:Int).toNat=0:=rfl
   rw [e3,Int.add_zero]
   exact append_zero hds hi (by omega) w
  ·rw [e1,list_set_same hb]
   exact hw
 ·have hpos:0 < m:=by omega
  have hd:=hd hpos
  rcases ho.2 with ⟨q1,q2⟩ | ⟨g,cap',cur,q2,_,hg,hnc,hcm,hcs,htk⟩
  ·omega
  ·injection q2 with q2 _ q3
   have hnews:Reads w d c ((xs.drop o.toNat).take m.toNat):=by
    intro j x hx
    simp only [List.getElem?_take,List.getElem?_drop] at hx
    split at hx
    ·obtain ⟨b',hb',hcl⟩:=hw.reads hb _ x hx
     rw [hd,hb',hzz]
     refine ⟨_,rfl,fun j u hu=>?_⟩
     rw [add_add,<-hcl j u hu,Nat.add_mul,Nat.add_assoc]
    ·cases hx
   rw [q2] at hd
   simp only [Option.map_some] at hd
   subst hd
   have hnl:((xs.drop o.toNat).take m.toNat).length=m.toNat:=by rw [List.length_take,List.length_drop]; omega
   have hfl:(((xs.drop o.toNat).take m.toNat).flatMap c.enc).length=m.toNat*c.sz:=by rw [flat_length hc,hnl]
   have hone:∀ u ∈ ((xs.drop o.toNat).take m.toNat).flatMap c.enc,u.oneCell'=true:=by
    intro u hu
    obtain ⟨y,_,hy⟩:=List.mem_flatMap.1 hu
    exact hc.one y u hy
   have hsum:l.toNat*c.sz+m.toNat*c.sz<=xs.length*c.sz:=by rw [<-Nat.add_mul]; exact Nat.mul_le_mul_right _ (by omega)
   have hcsz:xs.length*c.sz<=cur.size:=by rw [hcs]; exact Nat.mul_le_mul_right _ (by rw [<-hn]; exact hnc)
   have hr:=run_append_room (P:=P) w t ty _ i hds hi g l.toNat cap' cur hg _ m.toNat cap (((xs.drop o.toNat).take m.toNat).flatMap c.enc) (by rw [hfl,hsz,hz]) (reads_news hc hnews) hone (by omega) (by rw [hfl,hsz,<-hz]; omega)
   have hoc:(Blk.row true (tt.at t).elem c xs).occ (β b)=some g:=by simp [Blk.occ,q2]
   rw [q2,q3]
   rw [hsz,<-hz,hfl] at hr
   have e0:l.toNat+m.toNat=(l+m).toNat:=by omega
   rw [e0] at hr
   refine ⟨_,hr,hw.change hb trivial (g:=g) hoc hoc ⟨hc,hzz,?_,?_,?_⟩ (fun k hk=>setRow_other w g k _ hk) (by simp) rfl rfl rfl⟩
   ·rw [hn]; simp only [List.length_append,List.length_take,List.length_drop]; omega
   ·rw [flat_length hc,hn]; congr 1; simp only [List.length_append,List.length_take,List.length_drop]; omega
   ·refine .inr ⟨g,cap',_,?_,Nat.zero_le _,setRow_heap w g cur _ _ _ hg,hnc,hcm,?_,?_⟩
    ·rw [q2,q3]
    ·simp only [List.size_toArray,List.length_append,List.length_take,List.length_drop,Array.length_toList,hfl]
     rw [<-hcs]; omega
    ·have e2:(xs.drop (l+m).toNat).take ((xs.length:Int) - (l+m)).toNat=xs.drop (l+m).toNat:=List.take_of_length_le (by rw [List.length_drop]; omega)
     rw [e2,List.flatMap_append,List.flatMap_append]
     generalize (((xs.drop o.toNat).take m.toNat).flatMap c.enc)=N at hfl
     rw [(flat_take hc xs l.toNat).symm,(flat_drop hc xs (l+m).toNat).symm,<-htk,hn,List.take_take,List.drop_take]
     have e3:min (l.toNat*c.sz) (xs.length*c.sz)=l.toNat*c.sz:=by omega
     have e4:l.toNat*c.sz+m.toNat*c.sz=(l+m).toNat*c.sz:=by rw [<-Nat.add_mul,e0]
     have e8:(List.take (l.toNat*c.sz) cur.toList++N).length=(l+m).toNat*c.sz:=by
      rw [List.length_append,List.length_take,Array.length_toList,hfl,<-e4]; omega
     rw [e3,e4]
     show List.take (xs.length*c.sz) (List.take (l.toNat*c.sz) cur.toList++N++List.drop ((l+m).toNat*c.sz) cur.toList)=_
     rw [List.take_append,e8,List.take_of_length_le (by rw [e8]; omega),List.append_assoc]
/-- clear, of the end of a row of its own. -/
theorem clearRow_run {tt:Tab} (hT:TabOk P tt) {w0:Base} {w:World} {h:List Blk} (hw:RelW w0 β h w) {t ty:TypeId} (hk:(tt.at t).kind=3) (hel:tt.has (tt.at t).elem=true) {b:Nat} {e:TypeId} {c:Cd} {xs:List c.α} (hb:h[b]?=some (.row true e c xs)) (hzz:c.enc c.z=(tt.at (tt.at t).elem).zero)
  {o l:Int} (h0:0<=o) (h1:0<=l) (h2:o+l<=xs.length) {d:Option Addr} {cap:Nat} (hd:0 < l->d=(β b).a.map (·.add (o.toNat*(β b).z))) :
  ∃ w',(Builtin.clear_ #[t] ty #[.slice d l.toNat cap]).run P w=.ok (.tuple #[]) w'/\RelW w0 β (h.set b (.row true e c (xs.take o.toNat++(List.replicate l.toNat c.z++(xs.drop (o+l).toNat).take ((xs.length:Int) - (o+l)).toNat)))) w':=by
 have hq:=Tab.at_ok hT (Tab.has_of (t:=t) (by rw [hk]; decide))
 have hqe:=Tab.at_ok hT hel
 obtain ⟨ds,hds,hkd,hell,_⟩:=hq.und'
 rw [hk] at hkd
 cases ds<;>simp [kindB] at hkd
 simp only [elemB] at hell
 subst hell
 obtain ⟨hc,hz,hn,ho⟩:=hw.blk b _ hb
 by_cases hl:l=0
 ·subst hl
  refine ⟨w,clear_none hds _ _ _,?_⟩
  have:xs.take o.toNat++(List.replicate (0:Int).toNat c.z++(xs.drop (o+0).toNat).take ((xs.length:Int) - (o+0)).toNat)=xs:=by
   have e9:(xs.drop (o+0).toNat).take ((xs.length:Int) - (o+0)).toNat=xs.drop o.toNat:=by
    rw [Int.add_zero]; exact List.take_of_length_le (by rw [List.length_drop]; omega)
   rw [e9]; simp
  have hset:h.set b (.row true e c xs)=h:=by
   apply List.ext_getElem?
   intro j
   rw [List.getElem?_set]
   split
   ·rename_i hj
    subst hj
    have:=(List.getElem?_eq_some_iff.1 hb).1
    first
     | (rw [if_pos this]; exact hb.symm)
     | exact hb.symm
   ·rfl
  rw [this,hset]
  exact hw
 ·have hpos:0 < l:=by omega
  have hd:=hd hpos
  rcases ho.2 with ⟨q1,q2⟩ | ⟨g,cap',cur,q2,_,hg,hnc,hcm,hcs,htk⟩
  ·rw [hn] at q2; omega
  ·injection q2 with q2 _ q3
   rw [q2] at hd
   simp only [Option.map_some,add_own,Nat.zero_add] at hd
   subst hd
   obtain ⟨m,hm⟩:∃ m,l.toNat=m+1:=⟨l.toNat - 1,by omega⟩
   have hsz:c.sz=(tt.at (tt.at t).elem).zero.length:=by rw [<-hzz,hc.len]
   have hcells:(Builtin.zeroCells (if isAggB (tt.at (tt.at t).elem).kind then Value.agg (tt.at (tt.at t).elem).zero.toArray else (tt.at (tt.at t).elem).zero.headD undef).cells l.toNat).toList=(List.replicate l.toNat c.z).flatMap c.enc:=by
    rw [zero_cells hqe,<-repL_flat hzz]
    have:=repL_eq (tt.at (tt.at t).elem).zero c.sz hsz.symm hc.pos l.toNat
    rw [<-this]
    unfold Builtin.zeroCells
    simp [hsz]
   have hul:((List.replicate l.toNat c.z).flatMap c.enc).length=l.toNat*c.sz:=by rw [flat_length hc,List.length_replicate]
   have hone:∀ u ∈ (List.replicate l.toNat c.z).flatMap c.enc,u.oneCell'=true:=by
    intro u hu
    obtain ⟨y,_,hy⟩:=List.mem_flatMap.1 hu
    exact hc.one y u hy
   have hsum:o.toNat*c.sz+l.toNat*c.sz<=xs.length*c.sz:=by rw [<-Nat.add_mul]; exact Nat.mul_le_mul_right _ (by omega)
   have hcsz:xs.length*c.sz<=cur.size:=by rw [hcs]; exact Nat.mul_le_mul_right _ (by rw [<-hn]; exact hnc)
   obtain ⟨w',cs',r1,r2,r3,r4,r5,r6,r7,r8⟩:=storeCells_run (P:=P) (g:=g) (d:=o.toNat*c.sz) _ 0 w cur hg hone (by rw [hul]; omega)
   have hoc:(Blk.row true e c xs).occ (β b)=some g:=by simp [Blk.occ,q2]
   refine ⟨w',?_,hw.change hb trivial (g:=g) hoc hoc ⟨hc,hz,?_,?_,?_⟩ r4 (by omega) r6 r7 r8⟩
   ·rw [hz,hm]
    rw [hm] at hcells r1
    simp only [Builtin.clear_,List.getElem?_toArray,List.getElem?_cons_zero,Sem.run_bind,run_underlying hds,Result.andThen_ok]
    simp only [run_zero hqe,Sem.run_bind,Result.andThen_ok]
    rw [hcells,r1]; rfl
   ·rw [hn]; simp; omega
   ·rw [flat_length hc,hn]; congr 1; simp; omega
   ·refine .inr ⟨g,cap',cs',?_,Nat.zero_le _,r2,hnc,hcm,?_,?_⟩
    ·rw [q2,q3]
    ·rw [<-Array.length_toList,r3,putAt_length,Array.length_toList]; exact hcs
    ·rw [r3,hn,putAt_take _ _ _ (by rw [hul,Array.length_toList]; omega)]
     have e2:(xs.drop (o+l).toNat).take ((xs.length:Int) - (o+l)).toNat=xs.drop (o+l).toNat:=List.take_of_length_le (by rw [List.length_drop]; omega)
     rw [e2,List.flatMap_append,List.flatMap_append]
     generalize ((List.replicate l.toNat c.z).flatMap c.enc)=N at hul
     rw [(flat_take hc xs o.toNat).symm,(flat_drop hc xs (o+l).toNat).symm,<-htk,hn,List.take_take,List.drop_take]
     have e3:min (o.toNat*c.sz) (xs.length*c.sz)=o.toNat*c.sz:=by omega
     have e0:o.toNat+l.toNat=(o+l).toNat:=by omega
     have e4:o.toNat*c.sz+l.toNat*c.sz=(o+l).toNat*c.sz:=by rw [<-Nat.add_mul,e0]
     have e8:(List.take (o.toNat*c.sz) cur.toList++N).length=(o+l).toNat*c.sz:=by
      rw [List.length_append,List.length_take,Array.length_toList,hul,<-e4]; omega
     rw [e3,hul,Nat.add_zero,e4]
     show List.take (xs.length*c.sz) (List.take (o.toNat*c.sz) cur.toList++N++List.drop ((o+l).toNat*c.sz) cur.toList)=_
     rw [List.take_append,e8,List.take_of_length_le (by rw [e8]; omega),List.append_assoc]
theorem callClear {o:Oper} {x:Operand} {t:TypeId} {v:Value} {w w':World} (ho:o.op=.call { callee:=.builtin .clear,args:=#[x],argTypes:=#[t] }) (h:(Builtin.clear_ #[t] o.type #[a.eval x]).run P w=.ok v w') :
  (execOp a.eval o).run P w=.ok (.value v) w':=by
 unfold execOp
 rw [ho]
 simp only [resolve,Sem.run_bind,Sem.run_pure,Result.andThen_ok,invoke,builtin]
 simp [h]
theorem callAppend2 {o:Oper} {x y:Operand} {t t':TypeId} {v:Value} {w w':World} (ho:o.op=.call { callee:=.builtin .append,args:=#[x,y],argTypes:=#[t,t'] }) (h:(Builtin.append_ #[t,t'] o.type #[a.eval x,a.eval y]).run P w=.ok v w') :
  (execOp a.eval o).run P w=.ok (.value v) w':=by
 unfold execOp
 rw [ho]
 simp only [resolve,Sem.run_bind,Sem.run_pure,Result.andThen_ok,invoke,builtin]
 simp [h]
theorem callAppend {o:Oper} {x y:Operand} {t:TypeId} {v:Value} {w w':World} (ho:o.op=.call { callee:=.builtin .append,args:=#[x,y],argTypes:=#[t,t] }) (h:(Builtin.append_ #[t,t] o.type #[a.eval x,a.eval y]).run P w=.ok v w') :
  (execOp a.eval o).run P w=.ok (.value v) w':=by
 unfold execOp
 rw [ho]
 simp only [resolve,Sem.run_bind,Sem.run_pure,Result.andThen_ok,invoke,builtin]
 simp [h]
theorem bytes_run {tt:Tab} (hT:TabOk P tt) {t1 t2:TypeId} (h2:(tt.at t2).kind=4) (h1:(tt.at t1).kind=3) (hh:tt.has (tt.at t1).elem=true) (hk:(tt.at (tt.at t1).elem).kind=5) (hik:(tt.at (tt.at t1).elem).ik=.u8) {c:Cd} (hc:c.Ok) (hz:c.sz=1) (henc:∀ y:c.α,∃ n,c.enc y=[.int .u8 n]) {ys:List c.α} {d:Option Addr} {k:Nat} {w:World} (hr:Reads w d c ys) :
  (convert t1 t2 (.slice d ys.length k)).run P w=.ok (.string (std.b2s c.α c.enc ys)) w:=by
 have hq1:=Tab.at_ok hT (Tab.has_of (t:=t1) (by rw [h1]; decide))
 have hq2:=Tab.at_ok hT (Tab.has_of (t:=t2) (by rw [h2]; decide))
 have hqe:=Tab.at_ok hT hh
 obtain ⟨d1,hd1,hk1,hel,_⟩:=hq1.und'
 rw [h1] at hk1
 cases d1<;>simp [kindB] at hk1
 simp only [elemB] at hel
 subst hel
 obtain ⟨d2,hd2,hk2,_⟩:=hq2.und'
 rw [h2] at hk2
 cases d2<;>simp [kindB] at hk2
 obtain ⟨d3,hd3,hk3,_,hi3,_⟩:=hqe.und'
 rw [hk] at hk3
 cases d3<;>simp [kindB] at hk3
 simp only [ikB] at hi3
 rw [hik] at hi3
 subst hi3
 rw [run_convert_bytes_string w t1 t2 _ d ys.length k hd1 hd3 hd2]
 have hns:∃ ns:List Int,ys.flatMap c.enc=ns.map (Value.int .u8)/\ns.length=ys.length:=by
  clear hr
  induction ys with
  | nil=>exact ⟨[],rfl,rfl⟩
  | cons y ys ih=>
   obtain ⟨ns,h1,h2⟩:=ih
   obtain ⟨n,hn⟩:=henc y
   exact ⟨n::ns,by simp [h1,hn],by simp [h2]⟩
 obtain ⟨ns,h3,h4⟩:=hns
 have fold:∀ (ns:List Int) (b:ByteArray),ns.foldl (fun r n=>r.push (UInt8.ofNat n.toNat)) b=⟨b.data++(ns.map fun n=>UInt8.ofNat n.toNat).toArray⟩:=by
  intro ns
  induction ns with
  | nil=>intro b; simp
  | cons n ns ih=>
   intro b
   rw [List.foldl_cons,ih]
   apply ByteArray.ext
   simp [ByteArray.push]
 have hb2s:std.b2s c.α c.enc ys=⟨(ns.map fun n=>UInt8.ofNat n.toNat).toArray⟩:=by
  simp only [std,h3,List.map_map]
  rfl
 cases d with
 | none=>
  have hys:ys=[]:=by
   cases ys with
   | nil=>rfl
   | cons y ys=>obtain ⟨_,h,_⟩:=hr 0 y rfl; cases h
  subst hys
  have:ns=[]:=List.eq_nil_of_length_eq_zero (by simpa using h4)
  subst this
  rw [hb2s]
  simp [Conv.bytesToString]
  rfl
 | some ad=>
  have hcells:∀ j u,(ns.map (Value.int .u8))[j]?=some u->w.cell? (ad.add j)=some u:=by
   rw [<-h3]; exact reads_news hc hr
  have hl:=run_loadCells_list (P:=P) w ad (ns.map (Value.int .u8)) hcells
  rw [List.length_map,h4] at hl
  rw [run_bytesToString w ad ys.length k ns hl,fold,hb2s]
  simp
end
end Go.Proofs.YtkipmmiiackdaaaGreat.Sx
namespace Go.Proofs.YtkipmmiiackdaaaGreat.Sx
open Env (std)
open Go.RowKit Go.Proofs.YtkipmmiiackdaaaGreatW.PrintLast Go.Proofs.YtkipmmiiackdaaaGreatW.PrintWords
section
variable {P:Program} {ops:Array Oper} {Q:Exit->Act->World->Prop} {md:Region.Mode} {S:World->Prop} {ds:List Nat} {r:Option Nat}
theorem wpi_of {o:Oper} {a:Act} {w w':World} {v:Value} {K:Act->World->Prop} (h:(execOp a.eval o).run P w=.ok (.value v) w') (hk:K (a.put o.dst v) w') (hd:∀ c,o.op ≠ .defer c:=by intro c e; cases e):o.wpIn (fen r) 0 P a w K Q:=by
 refine ⟨fun f _=>trivial,?_⟩
 rw [Oper.semAt_eq _ _ _ hd,h]
 exact hk
theorem wpi_skip {o:Oper} {a:Act} {w w':World} {K:Act->World->Prop} (h:(execOp a.eval o).run P w=.ok .skip w') (hk:K (a.put o.dst undef) w') (hd:∀ c,o.op ≠ .defer c:=by intro c e; cases e):o.wpIn (fen r) 0 P a w K Q:=by
 refine ⟨fun f _=>trivial,?_⟩
 rw [Oper.semAt_eq _ _ _ hd,h]
 exact hk
theorem yieldsIfIn {i:Nat} {o:Oper} {v:Value} {a:Act} (hi:ops[i]?=some o) (hnd:∀ c,o.op ≠ .defer c) (hy:YieldsIf P ops S o v a)
  {K:Act->World->Prop} {w:World} (hS:S w) (h:K (a.put o.dst v) w):wpOpIn (fen r) 0 P ops Q i K a w:=by
 unfold Go.wpOpIn
 simp only [hi]
 rcases hy with ⟨hw,hv⟩ | ⟨hw,rfl⟩
 ·simp only [hw,if_true]; exact wpi_of (hv w hS) h hnd
 ·simp only [hw,Bool.false_eq_true,if_false]; exact ⟨fun f _=>trivial,h⟩
theorem wpOpIn_putIf {j:Nat} {oi oj:Oper} {v:Value} (hj:ops[j]?=some oj) (hnd:∀ c,oj.op ≠ .defer c) (hap:oi.apart ops oj=true)
  (hsi:∀ cs b,oi.op ≠ .select cs b) (hsj:∀ cs b,oj.op ≠ .select cs b)
  (hQ:∀ c a w,Q (.panic c) (a.put oi.dst v) w->Q (.panic c) a w) {K:Act->World->Prop} {a:Act} {w:World}
  (hy:YieldsIf P ops S oi v a) (h:wpOpIn (fen r) 0 P ops Q j K (a.put oi.dst v) w) :
  wpOpIn (fen r) 0 P ops Q j (fun a' w'=>YieldsIf P ops S oi v a'/\K (a'.put oi.dst v) w') a w:=by
 obtain ⟨h1,h2,h3⟩:=Oper.apart_spec hap
 have keep:∀ (a:Act),YieldsIf P ops S oi v a->∀ u,YieldsIf P ops S oi v (a.put oj.dst u):=fun a hy u=>
  hy.of_same (execOp_put oi hsi a oj.dst u h3) (wanted_put oi a oj.dst u h3)
 unfold wpOpIn at *
 simp only [hj] at *
 rw [wanted_put oj a oi.dst v h1] at h
 split
 ·rename_i hw
  simp only [hw,if_true] at h
  unfold Oper.wpIn at *
  refine ⟨fun f _=>trivial,?_⟩
  have h:=h.2
  rw [Oper.semAt_eq _ _ _ hnd,execOp_put oj hsj a oi.dst v h1] at h
  rw [Oper.semAt_eq _ _ _ hnd]
  generalize (execOp a.eval oj).run P w=r at *
  cases r with
  | ok x w'=>
   cases x<;>simp only [Oper.uponIn] at h ⊢
   case value u=>exact ⟨keep a hy u,by rw [<-Act.put_comm a v u h2]; exact h⟩
   case skip=>exact ⟨keep a hy _,by rw [<-Act.put_comm a v undef h2]; exact h⟩
   case defer d=>
    have hyd:YieldsIf P ops S oi v { a with defers:=d::a.defers }:=hy.of_same rfl rfl
    refine ⟨keep _ hyd _,?_⟩
    rw [<-Act.put_comm _ v undef h2,<-Act.put_defers]
    exact h
   case enter f args=>
    refine ⟨h.1,CallsIn.mono h.2 fun e w'' he=>?_⟩
    cases e with
    | returned u=>exact ⟨keep a hy u,by rw [<-Act.put_comm a v u h2]; exact he⟩
    | panicked c=>exact hQ _ _ _ he
    | outgrown=>exact he
   case row row args=>exact ⟨h.1,RowsIn.mono h.2 fun u w'' he=>⟨keep a hy u,by rw [<-Act.put_comm a v u h2]; exact he⟩⟩
   case round l f tmps assign body=>
    refine ⟨h.1,RoundIn.mono h.2 fun e w'' he=>?_⟩
    cases e with
    | returned u=>exact ⟨keep a hy u,by rw [<-Act.put_comm a v u h2]; exact he⟩
    | panicked c=>exact hQ _ _ _ he
    | outgrown=>exact he
  | halt x w'=>
   cases x<;>simp only [Oper.uponIn] at h ⊢
   case panic u=>exact hQ _ _ _ h
 ·rename_i hw
  simp only [hw] at h
  exact ⟨fun f _=>trivial,keep a hy _,by rw [<-Act.put_comm a v undef h2]; exact h.2⟩
/-- Whatever order is picked from here on, and S holds behind every operation that is carried out, those of ds apart. -/
def wpAnyLastIn (P:Program) (r:Option Nat) (md:Region.Mode) (ops:Array Oper) (Q:Exit->Act->World->Prop) (S:World->Prop) (ds:List Nat):Nat->Array Bool->Act->World->Prop
 | 0,listed,a,w=>Region.ready md ops listed=[]/\Q .normal a w
 | fuel+1,listed,a,w=>
  (Region.ready md ops listed=[]->Q .normal a w) /\
  ∀ i ∈ Region.ready md ops listed,wpOpIn (fen r) 0 P ops Q i (fun a' w'=>(i ∉ ds->S w->S w')/\wpAnyLastIn P r md ops Q S ds fuel (listed.setIfInBounds i true) a' w') a w
theorem wpAnyIn_of_last:∀ (fuel:Nat) (listed:Array Bool) (a:Act) (w:World),wpAnyLastIn P r md ops Q S ds fuel listed a w->wpAnyIn (fen r) 0 P md ops Q fuel listed a w
 | 0,_,_,_,h=>h
 | fuel+1,_,_,_,h=>⟨h.1,fun i hi=>wpOpIn_mono (fun a' w' h'=>wpAnyIn_of_last fuel _ a' w' h'.2) (h.2 i hi)⟩
theorem wpAnyLastIn_first {i:Nat} {oi:Oper} {v:Value} (hnd:∀ (j:Nat) (o:Oper) c,ops[j]?=some o->o.op ≠ .defer c) (hi:ops[i]?=some oi) (hsel:∀ (j:Nat) (o:Oper) cs b,ops[j]?=some o->o.op ≠ .select cs b)
  (hQ:∀ c a w,Q (.panic c) (a.put oi.dst v) w->Q (.panic c) a w) (n:Nat) :
  ∀ (fuel:Nat) (listed:Array Bool) (a:Act) (w:World),
   (∀ j oj,ops[j]?=some oj->j ≠ i->listed.getD j true=false->(∀ e ∈ oj.after,Region.binds md e=true->e.on ≠ i)->oi.apart ops oj=true) ->
   ListedClosed md ops listed->(∀ d ∈ ds,listed.getD d true=false->Region.reachB md ops i n d=true) ->
   i ∈ Region.ready md ops listed->YieldsIf P ops S oi v a->S w ->
   wpAnyLastIn P r md ops Q S ds fuel (listed.setIfInBounds i true) (a.put oi.dst v) w->wpAnyLastIn P r md ops Q S ds (fuel+1) listed a w:=by
 intro fuel
 induction fuel with
 | zero=>
  intro listed a w _ _ _ hr hy hS H
  refine ⟨fun h=>(by rw [h] at hr; cases hr),fun j hj=>?_⟩
  by_cases hji:j=i
  ·subst hji; exact yieldsIfIn hi (fun c=>hnd _ _ c hi) hy hS ⟨fun _ h=>h,H⟩
  ·have:=ready_mono hj hji
   rw [H.1] at this
   cases this
 | succ fuel ih=>
  intro listed a w hfree hc hd hr hy hS H
  refine ⟨fun h=>(by rw [h] at hr; cases hr),fun j hj=>?_⟩
  by_cases hji:j=i
  ·subst hji; exact yieldsIfIn hi (fun c=>hnd _ _ c hi) hy hS ⟨fun _ h=>h,H⟩
  ·have h1:=H.2 j (ready_mono hj hji)
   obtain ⟨hjun,oj,hoj,hall⟩:=mem_ready.1 hj
   have hiun:=(mem_ready.1 hr).1
   have hnot:∀ e ∈ oj.after,Region.binds md e=true->e.on ≠ i:=fun e he hb heq=>by
    have h1:=hall e he hb
    rw [heq] at h1
    rcases Nat.lt_or_ge i listed.size with h' | h'
    ·simp [h'] at hiun h1; rw [hiun] at h1; cases h1
    ·simp [Array.getElem?_eq_none h'] at h1
   have hjd:j ∉ ds:=fun hm=>Region.reach_not_ready hc (hd j hm hjun) hiun hj
   have h2:=wpOpIn_putIf hoj (fun c=>hnd _ _ c hoj) (hfree j oj hoj hji hjun hnot) (fun cs b=>hsel i oi cs b hi) (fun cs b=>hsel j oj cs b hoj) hQ hy h1
   have hfree':∀ k ok,ops[k]?=some ok->k ≠ i->(listed.setIfInBounds j true).getD k true=false ->
     (∀ e ∈ ok.after,Region.binds md e=true->e.on ≠ i)->oi.apart ops ok=true:=fun k ok hk hki hun hno=>by
    refine hfree k ok hk hki ?_ hno
    by_cases hjk:j=k
    ·subst hjk; exact hjun
    ·rw [getD_set_ne true hjk] at hun; exact hun
   have hd':∀ d ∈ ds,(listed.setIfInBounds j true).getD d true=false->Region.reachB md ops i n d=true:=fun d hm hun=>by
    refine hd d hm ?_
    by_cases hjk:j=d
    ·subst hjk; exact hjun
    ·rw [getD_set_ne true hjk] at hun; exact hun
   refine wpOpIn_mono (fun a' w' h3=>⟨h3.2.1,ih (listed.setIfInBounds j true) a' w' hfree' (hc.set hj) hd' (ready_mono hr (Ne.symm hji)) h3.1 (h3.2.1 hjd hS) ?_⟩) h2
   rw [Array.setIfInBounds_comm _ _ hji]
   exact h3.2.2
theorem wpAnyLastIn_any {i:Nat} {oi:Oper} {v:Value} (hnd:∀ (j:Nat) (o:Oper) c,ops[j]?=some o->o.op ≠ .defer c) (hi:ops[i]?=some oi) (hsel:∀ (j:Nat) (o:Oper) cs b,ops[j]?=some o->o.op ≠ .select cs b)
  (hQ:∀ c a w,Q (.panic c) (a.put oi.dst v) w->Q (.panic c) a w) :
  ∀ (fuel:Nat) (listed:Array Bool) (a:Act) (w:World),
   (∀ j oj,ops[j]?=some oj->j ≠ i->listed.getD j true=false->(∀ e ∈ oj.after,Region.binds md e=true->e.on ≠ i)->oi.apart ops oj=true) ->
   i ∈ Region.ready md ops listed->Yields P ops oi v a ->
   wpAnyLastIn P r md ops Q S ds fuel (listed.setIfInBounds i true) (a.put oi.dst v) w->wpAnyLastIn P r md ops Q S ds (fuel+1) listed a w:=by
 intro fuel
 have T:∀ {a:Act},Yields P ops oi v a->YieldsIf P ops (fun _=>True) oi v a:=fun hy=>hy.yieldsIf
 induction fuel with
 | zero=>
  intro listed a w _ hr hy H
  refine ⟨fun h=>(by rw [h] at hr; cases hr),fun j hj=>?_⟩
  by_cases hji:j=i
  ·subst hji; exact yieldsIfIn hi (fun c=>hnd _ _ c hi) (T hy) trivial ⟨fun _ h=>h,H⟩
  ·have:=ready_mono hj hji
   rw [H.1] at this
   cases this
 | succ fuel ih=>
  intro listed a w hfree hr hy H
  refine ⟨fun h=>(by rw [h] at hr; cases hr),fun j hj=>?_⟩
  by_cases hji:j=i
  ·subst hji; exact yieldsIfIn hi (fun c=>hnd _ _ c hi) (T hy) trivial ⟨fun _ h=>h,H⟩
  ·have h1:=H.2 j (ready_mono hj hji)
   obtain ⟨hjun,oj,hoj,hall⟩:=mem_ready.1 hj
   have hiun:=(mem_ready.1 hr).1
   have hnot:∀ e ∈ oj.after,Region.binds md e=true->e.on ≠ i:=fun e he hb heq=>by
    have h1:=hall e he hb
    rw [heq] at h1
    rcases Nat.lt_or_ge i listed.size with h' | h'
    ·simp [h'] at hiun h1; rw [hiun] at h1; cases h1
    ·simp [Array.getElem?_eq_none h'] at h1
   have h2:=wpOpIn_putIf hoj (fun c=>hnd _ _ c hoj) (hfree j oj hoj hji hjun hnot) (fun cs b=>hsel i oi cs b hi) (fun cs b=>hsel j oj cs b hoj) hQ (T hy) h1
   have hfree':∀ k ok,ops[k]?=some ok->k ≠ i->(listed.setIfInBounds j true).getD k true=false ->
     (∀ e ∈ ok.after,Region.binds md e=true->e.on ≠ i)->oi.apart ops ok=true:=fun k ok hk hki hun hno=>by
    refine hfree k ok hk hki ?_ hno
    by_cases hjk:j=k
    ·subst hjk; exact hjun
    ·rw [getD_set_ne true hjk] at hun; exact hun
   refine wpOpIn_mono (fun a' w' h3=>⟨h3.2.1,ih (listed.setIfInBounds j true) a' w' hfree' (ready_mono hr (Ne.symm hji)) ?_ ?_⟩) h2
   ·rcases h3.1 with ⟨q1,q2⟩ | q
    ·exact .inl ⟨q1,fun w=>q2 w trivial⟩
    ·exact .inr q
   ·rw [Array.setIfInBounds_comm _ _ hji]
    exact h3.2.2
theorem wpAnyLastIn_all {rs:List Nat} {fuel:Nat} {listed:Array Bool} {a:Act} {w:World} (hr:Region.ready md ops listed=rs) (hne:rs ≠ [])
  (h:∀ i ∈ rs,wpOpIn (fen r) 0 P ops Q i (fun a' w'=>(i ∉ ds->S w->S w')/\wpAnyLastIn P r md ops Q S ds fuel (listed.setIfInBounds i true) a' w') a w):wpAnyLastIn P r md ops Q S ds (fuel+1) listed a w:=
 ⟨fun h0=>absurd (hr ▸ h0) hne,hr ▸ h⟩
theorem wpAnyLastIn_done {listed:Array Bool} {a:Act} {w:World} (hr:Region.ready md ops listed=[]) (h:Q .normal a w) :
  ∀ fuel,wpAnyLastIn P r md ops Q S ds fuel listed a w
 | 0=>⟨hr,h⟩
 | _+1=>⟨fun _=>h,by rw [hr]; simp⟩
theorem wpIn_region_last {id:Nat} {a:Act} {w:World} (hm:P.follows .mixedOrders=true)
  (h:wpAnyLastIn P r .any ops Q S ds ops.size (Array.replicate ops.size false) a { w with drawn:=w.drawn+1 }):(Code.region id ops true).wpIn (fen r) 0 P Q a w:=
 wpIn_region_any hm (wpAnyIn_of_last _ _ _ _ h)
theorem noDefer_spec (h:noDefer ops=true) (j:Nat) (o:Oper) (c:Call) (hj:ops[j]?=some o):o.op ≠ .defer c:=by
 intro e
 have:=List.all_eq_true.1 h o (by simpa using List.mem_of_getElem? (show ops.toList[j]?=some o by simpa using hj))
 rw [e] at this; cases this
theorem takeIn_ (hnd:noDefer ops=true) {i:Nat} {N:Option Tmp} {oi:Oper} {v:Value} {fuel:Nat} {l:Array Bool} {a:Act} {w:World} (l':Array Bool) (hi:ops[i]?=some oi) (hN:oi.dst=N) (hc:takeB md ops ds l l' i=true)
  (hQ:∀ c a w,Q (.panic c) (a.put oi.dst v) w->Q (.panic c) a w) (hy:YieldsIf P ops S oi v a) (hS:S w) {a':Act} (ha:a.put N v=a')
  (h:wpAnyLastIn P r md ops Q S ds fuel l' a' w):wpAnyLastIn P r md ops Q S ds (fuel+1) l a w:=by
 subst ha
 subst hN
 simp only [takeB,Bool.and_eq_true,beq_iff_eq] at hc
 obtain ⟨⟨⟨⟨⟨h1,h2⟩,h3⟩,h4⟩,h5⟩,h6⟩:=hc
 subst h6
 exact wpAnyLastIn_first (fun j o c=>noDefer_spec hnd j o c) hi (Region.noSelect_spec h1) hQ ops.size fuel l a w (Region.free_spec hi h2) (Region.closedB_spec h4)
  (fun d hm hun=>by have:=List.all_eq_true.1 h5 d hm; rw [hun] at this; simpa using this) (by simpa using h3) hy hS h
theorem pureIn_ (hnd:noDefer ops=true) {i:Nat} {N:Option Tmp} {oi:Oper} {v:Value} {fuel:Nat} {l:Array Bool} {a:Act} {w:World} (l':Array Bool) (hi:ops[i]?=some oi) (hN:oi.dst=N) (hc:anyB md ops l l' i=true)
  (hQ:∀ c a w,Q (.panic c) (a.put oi.dst v) w->Q (.panic c) a w) (hy:Yields P ops oi v a) {a':Act} (ha:a.put N v=a')
  (h:wpAnyLastIn P r md ops Q S ds fuel l' a' w):wpAnyLastIn P r md ops Q S ds (fuel+1) l a w:=by
 subst ha
 subst hN
 simp only [anyB,Bool.and_eq_true,beq_iff_eq] at hc
 obtain ⟨⟨⟨h1,h2⟩,h3⟩,h6⟩:=hc
 subst h6
 exact wpAnyLastIn_any (fun j o c=>noDefer_spec hnd j o c) hi (Region.noSelect_spec h1) hQ fuel l a w (Region.free_spec hi h2) (by simpa using h3) hy h
end
end Go.Proofs.YtkipmmiiackdaaaGreat.Sx
