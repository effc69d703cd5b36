/- Part 4 of what the statement needs: an executor of Go texts, arithmetic, and contracts of the functions that are called. -/
import Derived.Test.YtkipmmiiackdaaaGreatCi3
set_option linter.unusedSimpArgs false
set_option linter.unusedVariables false
namespace Go.Proofs.YtkipmmiiackdaaaGreat.Sx
open Env (std)
open Go.RowKit Go.Proofs.YtkipmmiiackdaaaGreatW.PrintLast Go.Proofs.YtkipmmiiackdaaaGreatW.PrintWords
section
variable {P:Program} {β:Nat->Loc} {n:Nat} {s:St} {a:Act} {ds:List Deferred}
structure RowB (l:Loc) (c:Cd) (xs:List c.α):Prop where
 ok:c.Ok
 z:l.z=c.sz
 n:l.n=xs.length
 a:0 < l.n->∃ d,l.a=some d
 cap:l.n<=l.cap
def HB (β:Nat->Loc) (h:List Blk):Prop:=∀ (b:Nat) o e c xs,h[b]?=some (.row o e c xs)->RowB (β b) c xs
theorem ownsRow_some {w:World} {e:TypeId} {sz:Nat} {d:Option Addr} {n c:Nat} {xs:List Value} (h:w.ownsRow 0 e sz (.slice d n c) n xs):(0 < n->∃ d',d=some d')/\n<=c:=by
 rcases h.2 with ⟨h1,h2⟩ | ⟨g,cap,cur,h1,_,_,h3,_⟩
 ·exact ⟨fun h=>by omega,by omega⟩
 ·injection h1 with h4 h5 h6
  exact ⟨fun _=>⟨_,h4⟩,by omega⟩
theorem RelW.hb {w0:Base} {w:World} {h:List Blk} (hw:RelW w0 β h w):HB β h:=by
 intro b o e c xs hb
 have hr:=hw.blk b _ hb
 cases o with
 | true=>
  obtain ⟨h1,h2,h3,h4⟩:=hr
  obtain ⟨h5,h6⟩:=ownsRow_some h4
  exact ⟨h1,h2,h3,h5,h6⟩
 | false=>
  obtain ⟨h1,h2,h3,h4,h5⟩:=hr
  refine ⟨h1,h2,h3,fun h0=>?_,h4⟩
  obtain ⟨d,hd,_⟩:=h5 0 xs[0] (List.getElem?_eq_getElem (by omega))
  exact ⟨d,hd⟩
theorem buildA_run (ht:RelT ds β n s.t a) {ti:TI}:∀ (parts:List (Nat × Operand)) (cs r:List AV) (us:List Value),
  buildA s ti cs parts=some r->AVRs β cs us->AV.oks n cs->∀ places:Nat->Option (Nat × Nat),(∀ (f o z:Nat) (g:Bool),ti.flds[f]?=some (o,z,g)->places f=some (o,z)) ->
  ∃ us':List Value,Instr.fill places us.toArray (parts.map fun (i,x)=>(i,a.eval x))=some us'.toArray/\AVRs β r us'/\AV.oks n r
 | [],cs,r,us,h,hr,hk,places,hpl=>by
  simp only [buildA] at h; injection h with h; subst h; exact ⟨us,rfl,hr,hk⟩
 | (i,x)::rest,cs,r,us,h,hr,hk,places,hpl=>by
  simp only [buildA] at h
  split at h
  ·rename_i o z g he
   split at h
   ·rename_i hc
    simp only [Bool.and_eq_true,beq_iff_eq,decide_eq_true_eq] at hc
    obtain ⟨⟨h1,h2⟩,h3⟩:=hc
    obtain ⟨hx,hxk⟩:=ev_rel ht x
    have hcr:=cells_rel hx (AV.one_ne h2).1 (AV.one_ne h2).2
    have hsz:(a.eval x).cells.size=z:=by rw [<-Array.length_toList,AVRs_length hcr]; exact h1
    have hl:=AVRs_length hr
    have hcs:((a.eval x).cells.zipIdx.foldl (fun cs (p:Value × Nat)=>cs.setIfInBounds (o+p.2) p.1) us.toArray).toList=putAt us o (a.eval x).cells.toList:=by
     rw [<-Array.foldl_toList,Array.toList_zipIdx,fold_putAt]
     rfl
    have hk':AV.oks n (putAV cs o (cellsOf (ev s x))):=oks_of fun y hy=>(putAV_mem hy).elim (oks_mem hk y) (oks_mem (cells_ok hxk) y)
    obtain ⟨us',h4,h5,h6⟩:=buildA_run ht rest _ r _ h (hr.put o hcr) hk' places hpl
    refine ⟨us',?_,h5,h6⟩
    simp only [List.map_cons,Instr.fill,hpl i o z g he]
    rw [if_neg (by rw [hsz]; simp; omega)]
    rw [<-h4]
    congr 1
    apply Array.ext'
    exact hcs
   ·cases h
  ·cases h
theorem arrFlds_get {z:Nat}:∀ {n i f o y:Nat} {g:Bool},(arrFlds z i n)[f]?=some (o,y,g)->o=(i+f)*z/\y=z
 | 0,i,f,o,y,g,h=>by simp [arrFlds] at h
 | n+1,i,0,o,y,g,h=>by simp [arrFlds] at h; obtain ⟨h1,h2,_⟩:=h; exact ⟨by rw [<-h1]; simp,h2.symm⟩
 | n+1,i,f+1,o,y,g,h=>by
  have h:(arrFlds z (i+1) n)[f]?=some (o,y,g):=by simpa [arrFlds] using h
  have:=arrFlds_get h
  exact ⟨by rw [this.1]; congr 1; omega,this.2⟩
theorem partA_run {t:TypeId} {g:Bool} {z o:Nat} {cs:List AV} {vs:Array Value} {u:AV} (h1:∀ w,(isAgg t).run P w=.ok g w) (h2:∀ w,(Go.sizeOf t).run P w=.ok z w)
  (hr:AVRs β cs vs.toList) (hk:AV.oks n cs) (h:partA g cs o z=some u):∃ y,(∀ w,(part t vs o).run P w=.ok y w)/\AVR β u y/\u.ok n:=by
 unfold partA at h
 cases g with
 | true=>
  simp only [if_true] at h
  injection h with h; subst h
  refine ⟨_,fun w=>?_,mkAgg_rel ((hr.drop o).take z),mkAgg_ok (oks_take (oks_drop hk o) z)⟩
  unfold part
  rw [Sem.run_bind,h1]
  simp only [Result.andThen_ok,if_true]
  rw [Sem.run_bind,h2]
  simp only [Result.andThen_ok,Sem.run_pure]
  congr 2
  apply Array.ext'
  simp
 | false=>
  simp only [Bool.false_eq_true,if_false] at h
  have h':cs[o]?=some u:=by
   split at h
   ·cases h
   ·exact h
  obtain ⟨y,hy,hyr⟩:=AVRs_get hr h'
  refine ⟨y,fun w=>?_,hyr,oks_mem hk u (List.mem_of_getElem? h')⟩
  unfold part
  rw [Sem.run_bind,h1]
  simp only [Result.andThen_ok,Bool.false_eq_true,if_false]
  have:vs[o]?=some y:=by simpa using hy
  rw [this]; rfl
theorem aggCells_run (ht:RelT ds β n s.t a) {x:Operand} {cs:List AV} (h:aggCells (ev s x)=some cs):∃ vs:Array Value,a.eval x=.agg vs/\AVRs β cs vs.toList/\AV.oks n cs:=by
 obtain ⟨hx,hk⟩:=ev_rel ht x
 unfold aggCells at h
 split at h
 ·rename_i vs he
  injection h with h; subst h
  exact ⟨vs,ev_v ht he,AVRs.vs _,oks_vs _⟩
 ·rename_i vs he
  injection h with h; subst h
  exact ⟨vs,ev_c ht he,AVRs.vs _,oks_vs _⟩
 ·rename_i l he
  injection h with h; subst h
  have:=ev_at ht he
  simp only [AVR,AV.ok] at this
  obtain ⟨⟨vs,h1,h2⟩,h3⟩:=this
  exact ⟨vs,h1,h2,h3⟩
 ·cases h
theorem sliceBound_run {y:Nat} {code:BoundsCode} {k:IntKind} {i:Int} (h0:0<=i) (h1:i<=y) (w:World):(Instr.sliceBound (.int k i) y code).run P w=.ok i.toNat w:=by
 unfold Instr.sliceBound
 simp [asIntOf,h0,h1]
theorem bnd_none {x:Option Operand} (h:bnd s x=some none):x=none:=by
 cases x with
 | none=>rfl
 | some y=>simp only [bnd] at h; split at h<;>simp at h
theorem bnd_some (ht:RelT ds β n s.t a) {x:Option Operand} {i:Int} (h:bnd s x=some (some i)):∃ k,x.map a.eval=some (.int k i):=by
 cases x with
 | none=>simp [bnd] at h
 | some y=>
  simp only [bnd] at h
  split at h
  ·rename_i k m he
   injection h with h; injection h with h; subst h
   exact ⟨_,by simp only [Option.map_some]; rw [sv_eval ht he]⟩
  ·simp at h
/-- The bounds of a slice expression: both left out, or told. -/
theorem bounds_run (ht:RelT ds β n s.t a) {isS:Bool} {len cap:Nat} {lo hi:Option Operand} {l h:Option Int} (hl:bnd s lo=some l) (hh:bnd s hi=some h)
  (hr:0<=l.getD 0/\l.getD 0<=h.getD len/\h.getD len<=cap) (hc:len<=cap) (w:World):(Instr.sliceBounds isS len cap (lo.map a.eval) (hi.map a.eval) none).run P w=.ok ((l.getD 0).toNat,(h.getD len).toNat,cap) w:=by
 unfold Instr.sliceBounds
 cases l with
 | none=>
  rw [bnd_none hl]
  cases h with
  | none=>
   rw [bnd_none hh]
   simp
  | some j=>
   obtain ⟨k,hk⟩:=bnd_some ht hh
   simp only [Option.getD_none,Option.getD_some] at hr
   simp [hk,sliceBound_run (P:=P) (k:=k) (i:=j) (y:=cap) (by omega) (by omega)]
 | some i=>
  obtain ⟨k,hk⟩:=bnd_some ht hl
  cases h with
  | none=>
   rw [bnd_none hh]
   simp only [Option.getD_none,Option.getD_some] at hr
   simp [hk,sliceBound_run (P:=P) (k:=k) (i:=i) (y:=len) (by omega) (by omega)]
  | some j=>
   obtain ⟨k',hk'⟩:=bnd_some ht hh
   simp only [Option.getD_some] at hr
   simp only [hk,hk',Sem.run_bind,Sem.run_pure,Result.andThen_ok,sliceBound_run (P:=P) (k:=k') (i:=j) (y:=cap) (by omega) (by omega),sliceBound_run (P:=P) (k:=k) (i:=i) (y:=j.toNat) (by omega) (by omega),Option.getD_some]
/-- A slice of a slice with its bounds checked. -/
theorem slice3_run (ht:RelT ds β n s.t a) {t:TypeId} {ti te:TI} (hq:TyOk P t ti) (hk:ti.kind=3) (he:TyOk P ti.elem te) {d:Option Addr} {len cap:Nat} {lo hi:Option Operand} {l h:Int} (hl:bnd s lo=some (some l)) (hh:bnd s hi=some (some h)) {k:IntKind} {m:Int}
  (hr:0<=l/\l<=h/\h<=m/\m<=cap) (w:World) :
  (Instr.sliceAt t (.slice d len cap) (lo.map a.eval) (hi.map a.eval) (some (.int k m))).run P w=.ok (.slice (if m.toNat=l.toNat then d else d.map (·.add (l.toNat*te.sz))) (h.toNat - l.toNat) (m.toNat - l.toNat)) w:=by
 obtain ⟨ds,hd,hkd,hel,_⟩:=hq.und'
 rw [hk] at hkd
 cases ds<;>simp [kindB] at hkd
 rename_i e
 simp only [elemB] at hel
 subst hel
 obtain ⟨k1,hk1⟩:=bnd_some ht hl
 obtain ⟨k2,hk2⟩:=bnd_some ht hh
 unfold Instr.sliceAt Instr.slice Instr.sliceBounds
 simp only [Sem.run_bind,run_und hd,Result.andThen_ok,hk1,hk2,sliceBound_run (P:=P) (k:=k) (i:=m) (y:=cap) (by omega) (by omega),sliceBound_run (P:=P) (k:=k2) (i:=h) (y:=m.toNat) (by omega) (by omega),sliceBound_run (P:=P) (k:=k1) (i:=l) (y:=h.toNat) (by omega) (by omega),run_size he,Sem.run_pure]
/-- A slice of a slice. -/
theorem slice_run (ht:RelT ds β n s.t a) {t:TypeId} {ti te:TI} (hq:TyOk P t ti) (hk:ti.kind=3) (he:TyOk P ti.elem te) {d:Option Addr} {len cap:Nat} {lo hi:Option Operand} {l h:Option Int} (hl:bnd s lo=some l) (hh:bnd s hi=some h)
  (hr:0<=l.getD 0/\l.getD 0<=h.getD len/\h.getD len<=cap) (hc:len<=cap) (w:World) :
  (Instr.sliceAt t (.slice d len cap) (lo.map a.eval) (hi.map a.eval) none).run P w=.ok (.slice (if cap=(l.getD 0).toNat then d else d.map (·.add ((l.getD 0).toNat*te.sz))) ((h.getD len).toNat - (l.getD 0).toNat) (cap - (l.getD 0).toNat)) w:=by
 obtain ⟨ds,hd,hkd,hel,_⟩:=hq.und'
 rw [hk] at hkd
 cases ds<;>simp [kindB] at hkd
 rename_i e
 simp only [elemB] at hel
 subst hel
 unfold Instr.sliceAt Instr.slice
 simp only [Sem.run_bind,run_und hd,Result.andThen_ok,bounds_run ht hl hh hr hc,run_size he,Sem.run_pure]
theorem sliceStr_run (ht:RelT ds β n s.t a) {t:TypeId} {ti:TI} (hq:TyOk P t ti) (hk:ti.kind=4) {b:ByteArray} {lo hi:Option Operand} {l h:Option Int} (hl:bnd s lo=some l) (hh:bnd s hi=some h)
  (hr:0<=l.getD 0/\l.getD 0<=h.getD b.size/\h.getD b.size<=b.size) (w:World) :
  (Instr.sliceAt t (.string b) (lo.map a.eval) (hi.map a.eval) none).run P w=.ok (.string (b.extract (l.getD 0).toNat (h.getD b.size).toNat)) w:=by
 obtain ⟨ds,hd,hkd,hel,_⟩:=hq.und'
 rw [hk] at hkd
 cases ds<;>simp [kindB] at hkd
 unfold Instr.sliceAt Instr.slice
 simp [run_und hd,bounds_run ht hl hh hr (Nat.le_refl _)]
theorem sliceArr_run (ht:RelT ds β n s.t a) {t:TypeId} {ti te:TI} (hq:TyOk P t ti) (hk:ti.kind=2) (he:TyOk P ti.elem te) {d:Addr} {lo hi:Option Operand} {l h:Option Int} (hl:bnd s lo=some l) (hh:bnd s hi=some h)
  (hr:0<=l.getD 0/\l.getD 0<=h.getD ti.len/\h.getD ti.len<=ti.len) (w:World) :
  (Instr.sliceAt t (.pointer (some d)) (lo.map a.eval) (hi.map a.eval) none).run P w=.ok (.slice (some (if ti.len=(l.getD 0).toNat then d else d.add ((l.getD 0).toNat*te.sz))) ((h.getD ti.len).toNat - (l.getD 0).toNat) (ti.len - (l.getD 0).toNat)) w:=by
 obtain ⟨ds,hd,hkd,hel,_,_,_,hln⟩:=hq.und'
 rw [hk] at hkd
 cases ds<;>simp [kindB] at hkd
 simp only [elemB,lenB] at hel hln
 subst hel; subst hln
 unfold Instr.sliceAt
 simp only [Sem.run_bind,run_und hd,Result.andThen_ok,Instr.sureAddr,Sem.run_pure,bounds_run ht hl hh hr (Nat.le_refl _),run_size he]
theorem indexArr_run {t:TypeId} {ti te:TI} (hq:TyOk P t ti) (hk:ti.kind=2) (he:TyOk P ti.elem te) (b:Addr) (k:IntKind) (i:Int) (h:0<=i/\i < ti.len) (w:World) :
  (Instr.indexAt t (.pointer (some b)) (.int k i)).run P w=.ok (.pointer (some (b.add (i.toNat*te.sz)))) w:=by
 obtain ⟨d,hd,hkd,hel,_,_,_,hln⟩:=hq.und'
 rw [hk] at hkd
 cases d<;>simp [kindB] at hkd
 simp only [elemB,lenB] at hel hln
 subst hel; subst hln
 unfold Instr.indexAt
 simp [asIntOf,run_und hd,h,run_size he,Instr.sureAddr]
theorem evs_rel (ht:RelT ds β n s.t a):∀ l:List Operand,AVRs β (l.map (ev s)) (l.map a.eval)/\AV.oks n (l.map (ev s))
 | []=>by simp only [List.map_nil,AVRs,AV.oks]; exact ⟨trivial,trivial⟩
 | x::l=>by
  obtain ⟨h1,h2⟩:=evs_rel ht l
  obtain ⟨h3,h4⟩:=ev_rel ht x
  simp only [List.map_cons,AV.oks]
  exact ⟨h1.cons h3,h4,h2⟩
theorem avr_v {x:Value}:AVR β (.v x) x:=by simp only [AVR]
theorem avr_c {x:Value}:AVR β (.c x) x:=by simp only [AVR]
theorem callMax {o:Oper} {x y:Operand} {k:IntKind} {i j:Int} {ts:Array TypeId} (ho:o.op=.call { callee:=.builtin .max,args:=#[x,y],argTypes:=ts }) (hx:a.eval x=.int k i) (hy:a.eval y=.int k j) (w:World) :
  (execOp a.eval o).run P w=.ok (.value (.int k (std.mm true i j))) w:=by
 unfold execOp
 rw [ho]
 simp only [resolve,Sem.run_bind,Sem.run_pure,Result.andThen_ok,invoke,builtin]
 simp [hx,hy,Builtin.max_,Builtin.max2,std]
theorem callMin {o:Oper} {x y:Operand} {k:IntKind} {i j:Int} {ts:Array TypeId} (ho:o.op=.call { callee:=.builtin .min,args:=#[x,y],argTypes:=ts }) (hx:a.eval x=.int k i) (hy:a.eval y=.int k j) (w:World) :
  (execOp a.eval o).run P w=.ok (.value (.int k (std.mm false i j))) w:=by
 unfold execOp
 rw [ho]
 simp only [resolve,Sem.run_bind,Sem.run_pure,Result.andThen_ok,invoke,builtin]
 simp [hx,hy,Builtin.min_,Builtin.min2,std]
theorem map_add0 (d:Option Addr):d.map (·.add 0)=d:=by
 cases d with
 | none=>rfl
 | some x=>simp [Addr.add]
theorem avr_s {b:Nat} {l:Int} {y:Value} (h0:0<=l) (h1:l<=(β b).n) (hy:y=.slice (β b).a l.toNat (β b).cap):AVR β (.s b l) y:=by
 simp only [AVR]; exact ⟨h0,h1,hy⟩
theorem avr_w {b:Nat} {o l:Int} {d:Option Addr} {c:Nat} {y:Value} (h0:0<=o) (h1:0<=l) (h2:o+l<=(β b).n) (hy:y=.slice d l.toNat c) (hc:l.toNat<=c) (hd:0 < l->d=(β b).a.map (·.add (o.toNat*(β b).z))):AVR β (.w b o l) y:=by
 simp only [AVR]; exact ⟨h0,h1,h2,d,c,hy,hc,hd⟩
/-- Slices of a row from its start. -/
theorem cut_s {b:Nat} {n:Int} {z:Nat} (hz:(β b).z=z) (hc:(β b).n<=(β b).cap) (h0:0<=n) (h1:n<=(β b).n) {h:Int} (hh:0<=h/\h<=n) :
  AVR β (.s b h) (.slice (if (β b).cap=(0:Int).toNat then (β b).a else (β b).a.map (·.add ((0:Int).toNat*z))) (h.toNat - (0:Int).toNat) ((β b).cap - (0:Int).toNat)):=by
 refine avr_s hh.1 (by omega) ?_
 simp only [Int.toNat_zero,Nat.zero_mul,Nat.sub_zero,map_add0]
 split<;>rfl
theorem cut_sw {b:Nat} {n:Int} {z:Nat} (hz:(β b).z=z) (hc:(β b).n<=(β b).cap) (h0:0<=n) (h1:n<=(β b).n) {l h:Int} (hh:0<=l/\l<=h/\h<=n) :
  AVR β (.w b l (h - l)) (.slice (if (β b).cap=l.toNat then (β b).a else (β b).a.map (·.add (l.toNat*z))) (h.toNat - l.toNat) ((β b).cap - l.toNat)):=by
 refine avr_w (d:=if (β b).cap=l.toNat then (β b).a else (β b).a.map (·.add (l.toNat*z))) (c:=(β b).cap - l.toNat) hh.1 (by omega) (by omega) ?_ (by omega) (fun hl=>?_)
 ·congr 1; omega
 ·rw [if_neg (by omega),hz]
theorem cut_w {b:Nat} {o n:Int} {z c:Nat} {d:Option Addr} (hz:(β b).z=z) (h0:0<=o) (h1:0<=n) (h2:o+n<=(β b).n) (hc:n.toNat<=c) (hd:0 < n->d=(β b).a.map (·.add (o.toNat*(β b).z))) {h:Int} (hh:0<=h/\h<=n) :
  AVR β (.w b o h) (.slice (if c=(0:Int).toNat then d else d.map (·.add ((0:Int).toNat*z))) (h.toNat - (0:Int).toNat) (c - (0:Int).toNat)):=by
 refine avr_w (d:=d) (c:=c) h0 hh.1 (by omega) ?_ (by omega) (fun hl=>hd (by omega))
 simp only [Int.toNat_zero,Nat.zero_mul,Nat.sub_zero,map_add0]
 split<;>rfl
theorem cut_ww {b:Nat} {o n:Int} {z c:Nat} {d:Option Addr} (hz:(β b).z=z) (h0:0<=o) (h1:0<=n) (h2:o+n<=(β b).n) (hc:n.toNat<=c) (hd:0 < n->d=(β b).a.map (·.add (o.toNat*(β b).z))) {l h:Int} (hh:0<=l/\l<=h/\h<=n) :
  AVR β (.w b (o+l) (h - l)) (.slice (if c=l.toNat then d else d.map (·.add (l.toNat*z))) (h.toNat - l.toNat) (c - l.toNat)):=by
 refine avr_w (d:=if c=l.toNat then d else d.map (·.add (l.toNat*z))) (c:=c - l.toNat) (by omega) (by omega) (by omega) ?_ (by omega) (fun hl=>?_)
 ·congr 1; omega
 ·rw [if_neg (by omega),hd (by omega),hz,Option.map_map]
  have:(o+l).toNat=o.toNat+l.toNat:=by omega
  rw [this,Nat.add_mul]
  congr 1
  funext x
  exact add_add x _ _
theorem toNat_cast {n:Int} (h:0<=n):((n.toNat:Nat):Int)=n:=by omega
theorem pureA_sound {tt:Tab} (hT:TabOk P tt) (ht:RelT ds β n s.t a) (hb:HB β s.h) {o:Oper} {p:Option Prop} {x:AV}
  (h:pureA std tt s o.op=some (p,x)) (hp:∀ q,p=some q->q):∃ y,(∀ w,(execOp a.eval o).run P w=.ok (.value y) w)/\AVR β x y/\x.ok n:=by
 obtain ⟨dst,op,ty,pos,after,guard⟩:=o
 cases op with
 | move u=>
  simp only [pureA] at h; injection h with h; injection h with h1 h2; subst h1; subst h2
  exact ⟨_,fun w=>rfl,ev_rel ht u⟩
 | assign u=>
  simp only [pureA] at h; injection h with h; injection h with h1 h2; subst h1; subst h2
  exact ⟨_,fun w=>rfl,ev_rel ht u⟩
 | pick c u v=>
  simp only [pureA] at h
  split at h
  ·rename_i hc
   injection h with h; injection h with h1 h2; subst h1; subst h2
   refine ⟨_,fun w=>?_,ev_rel ht u⟩
   simp only [execOp,sv_eval ht hc,asBool,Sem.run_bind,Sem.run_pure,Result.andThen_ok,if_true]
  ·rename_i hc
   injection h with h; injection h with h1 h2; subst h1; subst h2
   refine ⟨_,fun w=>?_,ev_rel ht v⟩
   simp [execOp,sv_eval ht hc,asBool]
  ·rename_i b hc
   split at h
   ·rename_i k1 y k2 z hy hz
    injection h with h; injection h with h1 h2; subst h1; subst h2
    refine ⟨.bool (if b then y else z),fun w=>?_,by simp only [AVR,std],by simp only [AV.ok]⟩
    simp only [execOp,sv_eval ht hc,sv_eval ht hy,sv_eval ht hz,asBool,Sem.run_bind,Sem.run_pure,Result.andThen_ok]
    cases b<;>rfl
   ·rename_i k1 k y k2 k' z hy hz
    split at h
    ·rename_i hk
     have:=same_eq hk; subst this
     injection h with h; injection h with h1 h2; subst h1; subst h2
     refine ⟨.int k (if b then y else z),fun w=>?_,by simp only [AVR,std],by simp only [AV.ok]⟩
     simp only [execOp,sv_eval ht hc,sv_eval ht hy,sv_eval ht hz,asBool,Sem.run_bind,Sem.run_pure,Result.andThen_ok]
     cases b<;>rfl
    ·cases h
   ·cases h
  ·cases h
 | fieldAddr st u f=>
  simp only [pureA] at h
  have hash:∀ {d z:Nat} {g:Bool},(tt.at st).flds[f]?=some (d,z,g)->tt.has st=true:=by
   intro d z g hf
   have hk:(tt.at st).flds ≠ []:=by intro e; rw [e] at hf; simp at hf
   unfold Tab.has; unfold Tab.at at hk
   cases e:tt.find? fun e=>e.1 == st with
   | none=>rw [e] at hk; exact absurd rfl hk
   | some x=>rfl
  split at h
  ·rename_i b o d z g he hf
   split at h
   ·cases h
   ·rename_i hz
    injection h with h; injection h with h1 h2; subst h1; subst h2
    obtain ⟨h1,h2⟩:=ev_p ht he
    refine ⟨.pointer (some ⟨(β b).g,o+d,none⟩),fun w=>?_,by simp only [AVR],by simp only [AV.ok]; exact h2⟩
    simp only [execOp,h1]
    refine run_value ?_
    rw [fieldAt_run (Tab.at_ok hT (hash hf)) hf (by simpa using hz),add_own]
  ·rename_i b i o d z g he hf
   split at h
   ·cases h
   ·rename_i hz
    injection h with h; injection h with h1 h2; subst h1; subst h2
    obtain ⟨⟨h1,h2,d',h3,h4⟩,h5⟩:=ev_e ht he
    refine ⟨.pointer (some (d'.add (i.toNat*(β b).z+(o+d)))),fun w=>?_,by simp only [AVR]; exact ⟨h1,h2,d',h3,rfl⟩,by simp only [AV.ok]; exact h5⟩
    simp only [execOp,h4]
    refine run_value ?_
    rw [fieldAt_run (Tab.at_ok hT (hash hf)) hf (by simpa using hz),add_add,Nat.add_assoc]
  ·cases h
 | extract u i=>
  simp only [pureA] at h
  have key:∀ (vs:Array Value) (y:Value),a.eval u=.tuple vs->vs.toList[i]?=some y->∀ w,(execOp a.eval { dst:=dst,op:=.extract u i,type:=ty,pos:=pos,after:=after,guard:=guard }).run P w=.ok (.value y) w:=by
   intro vs y h1 h2 w
   simp only [execOp,h1]
   refine run_value ?_
   have:vs[i]?=some y:=by simpa using h2
   simp [Instr.extract,this]
  split at h
  ·rename_i vs hv
   split at h
   ·rename_i y hy
    injection h with h; injection h with h1 h2; subst h1; subst h2
    exact ⟨y,key vs y (ev_v ht hv) hy,by simp only [AVR],by simp only [AV.ok]⟩
   ·cases h
  ·rename_i vs hv
   split at h
   ·rename_i y hy
    injection h with h; injection h with h1 h2; subst h1; subst h2
    exact ⟨y,key vs y (ev_c ht hv) hy,by simp only [AVR],by simp only [AV.ok]⟩
   ·cases h
  ·rename_i l hv
   split at h
   ·rename_i y hy
    injection h with h; injection h with h1 h2; subst h1; subst h2
    have:=ev_at ht hv
    simp only [AVR,AV.ok] at this
    obtain ⟨⟨vs,h1,h2⟩,h3⟩:=this
    obtain ⟨z,hz,hr⟩:=AVRs_get h2 hy
    exact ⟨z,key vs z h1 hz,hr,oks_mem h3 y (List.mem_of_getElem? hy)⟩
   ·cases h
  ·cases h
 | binOp op t u v t2=>
  simp only [pureA] at h
  split at h
  ·rename_i k1 y k2 z hy hz
   split at h
   ·rename_i p' r hbn
    injection h with h; injection h with h1 h2; subst h1; subst h2
    refine ⟨r,fun w=>?_,by simp only [AVR],by simp only [AV.ok]⟩
    have:=binA_sound hT hbn hp u v w
    simp only [execOp,sv_eval ht hy,sv_eval ht hz]
    refine run_value ?_
    exact this
   ·cases h
  ·rename_i k1 y k2 z _ hy hz
   split at h
   ·rename_i p' r hbn
    injection h with h; injection h with h1 h2; subst h1; subst h2
    refine ⟨r,fun w=>?_,by simp only [AVR],by simp only [AV.ok]⟩
    have:=binA_sound hT hbn hp u v w
    simp only [execOp,sv_eval ht hy,sv_eval ht hz]
    refine run_value ?_
    exact this
   ·cases h
  ·cases h
 | unOp op t u=>
  simp only [pureA] at h
  split at h
  ·rename_i b hbn
   injection h with h; injection h with h1 h2; subst h1; subst h2
   refine ⟨_,fun w=>?_,(by first | exact avr_v | exact avr_c),by simp only [AV.ok]⟩
   simp only [execOp,sv_eval ht hbn]
   exact run_value rfl
  ·rename_i b hbn
   injection h with h; injection h with h1 h2; subst h1; subst h2
   refine ⟨_,fun w=>?_,(by first | exact avr_v | exact avr_c),by simp only [AV.ok]⟩
   simp only [execOp,sv_eval ht hbn]
   exact run_value rfl
  ·rename_i k i hbn
   injection h with h; injection h with h1 h2; subst h1; subst h2
   refine ⟨_,fun w=>?_,(by first | exact avr_v | exact avr_c),by simp only [AV.ok]⟩
   simp only [execOp,sv_eval ht hbn]
   exact run_value rfl
  ·rename_i k i hbn
   injection h with h; injection h with h1 h2; subst h1; subst h2
   refine ⟨_,fun w=>?_,(by first | exact avr_v | exact avr_c),by simp only [AV.ok]⟩
   simp only [execOp,sv_eval ht hbn]
   exact run_value rfl
  ·cases h
 | convert t1 t2 u=>
  simp only [pureA] at h
  have key:∀ (k:IntKind) (i:Int),(tt.at t1).kind=5->(tt.at t2).kind=5->a.eval u=.int k i->∀ w,(execOp a.eval { dst:=dst,op:=.convert t1 t2 u,type:=ty,pos:=pos,after:=after,guard:=guard }).run P w=.ok (.value (.int (tt.at t2).ik ((tt.at t2).ik.wrap i))) w:=by
   intro k i k1 k2 hu w
   obtain ⟨d1,hd1,_⟩:=(Tab.at_ok hT (Tab.has_of (t:=t1) (by rw [k1]; decide))).und'
   obtain ⟨d2,hd2,hk2,_,hik,_⟩:=(Tab.at_ok hT (Tab.has_of (t:=t2) (by rw [k2]; decide))).und'
   rw [k2] at hk2
   cases d2<;>simp [kindB] at hk2
   rename_i kd
   simp only [ikB] at hik
   simp only [execOp,hu]
   refine run_value ?_
   rw [<-hik]
   simp [convert,run_und hd1,run_und hd2,Conv.intToInt]
  split at h
  ·rename_i k i hu
   split at h
   ·rename_i hk
    simp only [Bool.and_eq_true,beq_iff_eq] at hk
    injection h with h; injection h with h1 h2; subst h1; subst h2
    exact ⟨_,key k i hk.1 hk.2 (sv_eval ht hu),by simp only [AVR],by simp only [AV.ok]⟩
   ·cases h
  ·rename_i k i hu
   split at h
   ·rename_i hk
    simp only [Bool.and_eq_true,beq_iff_eq] at hk
    injection h with h; injection h with h1 h2; subst h1; subst h2
    exact ⟨_,key k i hk.1 hk.2 (sv_eval ht hu),by simp only [AVR,std],by simp only [AV.ok]⟩
   ·cases h
  ·cases h
 | build t parts=>
  simp only [pureA] at h
  split at h
  ·rename_i hk
   have hk':(tt.at t).kind=1:=by simpa using hk
   split at h
   ·rename_i cs hcs
    injection h with h; injection h with h1 h2; subst h1; subst h2
    have hq:=Tab.at_ok hT (Tab.has_of (t:=t) (by rw [hk']; decide))
    obtain ⟨d,hd,hkd,_⟩:=hq.und'
    rw [hk'] at hkd
    cases d<;>simp [kindB] at hkd
    rename_i fs
    obtain ⟨places,hpr,hpl⟩:=places_run hd hq
    obtain ⟨us,h1,h2,h3⟩:=buildA_run ht parts.toList ((tt.at t).zero.map .v) cs (tt.at t).zero (by simpa using hcs) (AVRs.vs _) (oks_vs _) (fun i=>places[i]?) hpl
    refine ⟨.agg us.toArray,fun w=>?_,mkAgg_rel h2,mkAgg_ok h3⟩
    simp only [execOp]
    refine run_value ?_
    unfold Instr.build
    rw [Sem.run_bind,run_zero hq]
    simp only [Result.andThen_ok]
    rw [zero_cells hq,Sem.run_bind,run_und hd]
    simp only [Result.andThen_ok]
    rw [Sem.run_bind,hpr]
    simp only [Result.andThen_ok]
    have e:(parts.map fun (x:Nat × Operand)=>(x.1,a.eval x.2)).toList=parts.toList.map fun (i,x)=>(i,a.eval x):=by simp
    rw [e,h1]
    rfl
   ·cases h
  ·split at h
   ·rename_i hk
    have hk':(tt.at t).kind=2:=by simpa using hk
    split at h
    ·rename_i hel
     split at h
     ·rename_i cs hcs
      injection h with h; injection h with h1 h2; subst h1; subst h2
      have hq:=Tab.at_ok hT (Tab.has_of (t:=t) (by rw [hk']; decide))
      have hqe:=Tab.at_ok hT hel
      obtain ⟨d,hd,hkd,hle,_,_,_,hln⟩:=hq.und'
      rw [hk'] at hkd
      cases d<;>simp [kindB] at hkd
      simp only [elemB,lenB] at hle hln
      obtain ⟨us,h1,h2,h3⟩:=buildA_run ht parts.toList ((tt.at t).zero.map .v) cs (tt.at t).zero (by simpa using hcs) (AVRs.vs _) (oks_vs _) (fun i=>some (i*(tt.at (tt.at t).elem).sz,(tt.at (tt.at t).elem).sz)) (fun f o z g hf=>by
       have:=arrFlds_get hf
       rw [this.1,this.2]; simp)
      refine ⟨.agg us.toArray,fun w=>?_,mkAgg_rel h2,mkAgg_ok h3⟩
      simp only [execOp]
      refine run_value ?_
      unfold Instr.build
      rw [Sem.run_bind,run_zero hq]
      simp only [Result.andThen_ok]
      rw [zero_cells hq,Sem.run_bind,run_und hd]
      simp only [Result.andThen_ok]
      subst hle
      rw [Sem.run_bind,run_size hqe]
      simp only [Result.andThen_ok]
      have e:(parts.map fun (x:Nat × Operand)=>(x.1,a.eval x.2)).toList=parts.toList.map fun (i,x)=>(i,a.eval x):=by simp
      rw [e,h1]
      rfl
     ·cases h
    ·cases h
   ·cases h
 | field t u f=>
  simp only [pureA] at h
  split at h
  ·rename_i cs o z g hu hf
   split at h
   ·rename_i y hy
    injection h with h; injection h with h1 h2; subst h1; subst h2
    have hk:(tt.at t).flds ≠ []:=by intro e; rw [e] at hf; simp at hf
    have hh:tt.has t=true:=by
     unfold Tab.has; unfold Tab.at at hk
     cases e:tt.find? fun e=>e.1 == t with
     | none=>rw [e] at hk; exact absurd rfl hk
     | some x=>rfl
    obtain ⟨fs,fd,hd,hfd,ho,hsz,hag⟩:=fld_get (Tab.at_ok hT hh) hf
    obtain ⟨vs,h1,h2,h3⟩:=aggCells_run ht hu
    obtain ⟨z',h4,h5,h6⟩:=partA_run hag hsz h2 h3 hy
    refine ⟨z',fun w=>?_,h5,h6⟩
    simp only [execOp,h1]
    refine run_value ?_
    unfold Instr.field
    rw [Sem.run_bind,run_und hd]
    simp only [Result.andThen_ok,hfd,asAgg,Sem.run_bind,Sem.run_pure]
    rw [ho]
    exact h4 w
   ·cases h
  ·cases h
 | index t u i=>
  simp only [pureA] at h
  split at h
  ·rename_i hk
   have hk':(tt.at t).kind=2:=by simpa using hk
   split at h
   ·rename_i hel
    split at h
    ·rename_i cs k m hu hm
     split at h
     ·rename_i hin
      split at h
      ·rename_i y hy
       injection h with h; injection h with h1 h2; subst h1; subst h2
       have hq:=Tab.at_ok hT (Tab.has_of (t:=t) (by rw [hk']; decide))
       have hqe:=Tab.at_ok hT hel
       obtain ⟨d,hd,hkd,hle,_,_,_,hln⟩:=hq.und'
       rw [hk'] at hkd
       cases d<;>simp [kindB] at hkd
       simp only [elemB,lenB] at hle hln
       subst hle; subst hln
       obtain ⟨vs,h1,h2,h3⟩:=aggCells_run ht hu
       obtain ⟨z',h4,h5,h6⟩:=partA_run (run_isAgg hqe) (run_size hqe) h2 h3 hy
       have hin':0<=m/\m < ((tt.at t).len:Int):=by simpa using hin
       refine ⟨z',fun w=>?_,h5,h6⟩
       simp only [execOp,h1,sv_eval ht hm]
       refine run_value ?_
       unfold Instr.index
       simp only [asIntOf,Sem.run_bind,Sem.run_pure,Result.andThen_ok,run_und hd]
       rw [if_pos hin',Sem.run_bind,run_size hqe]
       simp only [Result.andThen_ok]
       exact h4 w
      ·cases h
     ·cases h
    ·cases h
   ·cases h
  ·split at h
   ·rename_i k1 b k2 k m hbn hm
    split at h
    ·rename_i hk
     have hk':(tt.at t).kind=4:=by simpa using hk
     injection h with h; injection h with h1 h2; subst h1; subst h2
     obtain ⟨d,hd,hkd,_⟩:=(Tab.at_ok hT (Tab.has_of (t:=t) (by rw [hk']; decide))).und'
     rw [hk'] at hkd
     cases d<;>simp [kindB] at hkd
     have hin:0<=m/\m < (b.size:Int):=hp _ rfl
     refine ⟨_,fun w=>?_,(by first | exact avr_v | exact avr_c),by simp only [AV.ok]⟩
     simp only [execOp,sv_eval ht hbn,sv_eval ht hm]
     refine run_value ?_
     have hlt:m.toNat < b.size:=by omega
     unfold Instr.index
     simp [asIntOf,run_und hd,hin.1,hlt,std]
    ·cases h
   ·cases h
 | nilCheck u=>
  simp only [pureA] at h
  split at h
  ·rename_i b o he
   injection h with h; injection h with h1 h2; subst h1; subst h2
   obtain ⟨h1,h2⟩:=ev_p ht he
   exact ⟨.pointer (some ⟨(β b).g,o,none⟩),fun w=>by simp only [execOp,h1]; rfl,by simp only [AVR],by simp only [AV.ok]; exact h2⟩
  ·rename_i b i o he
   injection h with h; injection h with h1 h2; subst h1; subst h2
   obtain ⟨⟨h1,h2,d,h3,h4⟩,h5⟩:=ev_e ht he
   exact ⟨_,fun w=>by simp only [execOp,h4]; rfl,by simp only [AVR]; exact ⟨h1,h2,d,h3,rfl⟩,by simp only [AV.ok]; exact h5⟩
  ·cases h
 | makeFunc fn first caps=>
  simp only [pureA] at h
  split at h
  ·rename_i g
   injection h with h; injection h with h1 h2; subst h1; subst h2
   obtain ⟨h1,h2⟩:=evs_rel ht first.toList
   obtain ⟨h3,h4⟩:=evs_rel ht caps.toList
   refine ⟨.func (.func g) (first.map a.eval) (caps.map a.eval),fun w=>rfl,?_,?_⟩
   ·simp only [AVR]; exact ⟨_,_,rfl,by simpa using h1,by simpa using h3⟩
   ·simp only [AV.ok]; exact ⟨h2,h4⟩
  ·cases h
 | indexAddr t u i=>
  simp only [pureA] at h
  split at h
  ·rename_i hk
   simp only [Bool.and_eq_true,beq_iff_eq] at hk
   have hq:=Tab.at_ok hT (Tab.has_of (t:=t) (by rw [hk.1]; decide))
   have hqe:=Tab.at_ok hT hk.2
   split at h
   ·rename_i b o l c k m he hm
    split at h
    ·rename_i hin
     injection h with h; injection h with h1 h2; subst h1; subst h2
     obtain ⟨h1,h2⟩:=ev_q ht he
     refine ⟨.pointer (some ⟨(β b).g,o+m.toNat*(tt.at (tt.at t).elem).sz,none⟩),fun w=>?_,by simp only [AVR],by simp only [AV.ok]; exact h2⟩
     simp only [execOp,h1,sv_eval ht hm]
     refine run_value ?_
     rw [indexAt_run hq hk.1 hqe _ l c k m (by simpa using hin) w,add_own]
    ·cases h
   ·rename_i b l k1 k m he hm
    split at h
    ·rename_i ow e c xs hr
     split at h
     ·rename_i hz
      have hz':c.sz=(tt.at (tt.at t).elem).sz:=by simpa using hz
      injection h with h; injection h with h1 h2; subst h1; subst h2
      obtain ⟨⟨h1,h2,h3⟩,h4⟩:=ev_s ht he
      have hin:0<=m/\m < l:=hp _ rfl
      have hrb:=hb b _ _ _ _ hr
      obtain ⟨d,hd⟩:=hrb.a (by omega)
      refine ⟨.pointer (some (d.add (m.toNat*(β b).z+0))),fun w=>?_,by simp only [AVR]; exact ⟨hin.1,by omega,d,hd,rfl⟩,by simp only [AV.ok]; exact h4⟩
      simp only [execOp,h3,sv_eval ht hm,hd]
      refine run_value ?_
      rw [indexAt_run hq hk.1 hqe d l.toNat _ k m (by omega) w,hrb.z,hz']
      rfl
     ·cases h
    ·cases h
   ·rename_i b o' l k1 k m he hm
    split at h
    ·rename_i ow e c xs hr
     split at h
     ·rename_i hz
      have hz':c.sz=(tt.at (tt.at t).elem).sz:=by simpa using hz
      injection h with h; injection h with h1 h2; subst h1; subst h2
      obtain ⟨⟨h1,h2,h3,d',c',h4,h5,h6⟩,h7⟩:=ev_w ht he
      have hin:0<=m/\m < l:=hp _ rfl
      have hrb:=hb b _ _ _ _ hr
      obtain ⟨d,hd⟩:=hrb.a (by omega)
      have h8:=h6 (by omega)
      rw [hd] at h8
      simp only [Option.map_some] at h8
      refine ⟨.pointer (some (d.add ((o'+m).toNat*(β b).z+0))),fun w=>?_,by simp only [AVR,std]; exact ⟨by omega,by omega,d,hd,rfl⟩,by simp only [AV.ok]; exact h7⟩
      simp only [execOp,h4,sv_eval ht hm,h8]
      refine run_value ?_
      rw [indexAt_run hq hk.1 hqe _ l.toNat _ k m (by omega) w,add_add,hrb.z,hz']
      have:(o'+m).toNat=o'.toNat+m.toNat:=by omega
      rw [this,Nat.add_mul]
      rfl
     ·cases h
    ·cases h
   ·cases h
  ·split at h
   ·rename_i hk0 hk
    simp only [Bool.and_eq_true,beq_iff_eq,decide_eq_true_eq] at hk
    have hq:=Tab.at_ok hT (Tab.has_of (t:=t) (by rw [hk.1.1]; decide))
    have hqe:=Tab.at_ok hT hk.1.2
    split at h
    ·rename_i b k1 k m he hm
     split at h
     ·rename_i ow e c xs hr
      split at h
      ·rename_i hz
       have hz':c.sz=(tt.at (tt.at t).elem).sz:=by simpa using hz
       injection h with h; injection h with h1 h2; subst h1; subst h2
       obtain ⟨⟨d,h1,_,h2⟩,h3⟩:=ev_arr ht he
       obtain ⟨hin,hln⟩:=hp _ rfl
       simp only [std] at hin hln
       have hrb:=hb b _ _ _ _ hr
       refine ⟨.pointer (some (d.add (m.toNat*(β b).z+0))),fun w=>?_,by simp only [AVR]; exact ⟨hin.1,by rw [hrb.n]; omega,d,h1,rfl⟩,by simp only [AV.ok]; exact h3⟩
       simp only [execOp,h2,sv_eval ht hm]
       refine run_value ?_
       rw [indexArr_run hq hk.1.1 hqe d k m hin w,hrb.z,hz']
       rfl
      ·cases h
     ·cases h
    ·rename_i b o k m he hm
     split at h
     ·rename_i hin
      injection h with h; injection h with h1 h2; subst h1; subst h2
      obtain ⟨h1,h2⟩:=ev_p ht he
      refine ⟨.pointer (some ⟨(β b).g,o+m.toNat*(tt.at (tt.at t).elem).sz,none⟩),fun w=>?_,by simp only [AVR],by simp only [AV.ok]; exact h2⟩
      simp only [execOp,h1,sv_eval ht hm]
      refine run_value ?_
      rw [indexArr_run hq hk.1.1 hqe _ k m (by simpa using hin) w,add_own]
     ·cases h
    ·cases h
   ·cases h
 | slice t u lo hi mx=>
  simp only [pureA] at h
  split at h
  ·rename_i l hgh hl hhi
   split at h
   ·rename_i hk
    have hk':(tt.at t).kind=4:=by simpa using hk
    have hq:=Tab.at_ok hT (Tab.has_of (t:=t) (by rw [hk']; decide))
    split at h
    ·rename_i k1 b hbv
     have hrun:∀ (hr:0<=l.getD 0/\l.getD 0<=hgh.getD b.size/\hgh.getD b.size<=b.size) (w:World),(execOp a.eval { dst:=dst,op:=.slice t u lo hi none,type:=ty,pos:=pos,after:=after,guard:=guard }).run P w=.ok (.value (.string (b.extract (l.getD 0).toNat (hgh.getD b.size).toNat))) w:=by
      intro hr w
      simp only [execOp,sv_eval ht hbv]
      refine run_value ?_
      exact sliceStr_run ht hq hk' hl hhi hr w
     split at h
     ·injection h with h; injection h with h1 h2; subst h1; subst h2
      refine ⟨_,fun w=>hrun ⟨by simp,by simp,by simp⟩ w,?_,by simp only [AV.ok]⟩
      simp only [Option.getD_none,Int.toNat_zero,Int.toNat_natCast,AVR]
      congr 1
      exact ByteArray.extract_zero_size
     ·injection h with h; injection h with h1 h2; subst h1; subst h2
      have:=hp _ rfl
      simp only [std] at this
      exact ⟨_,fun w=>hrun (by simpa using this) w,by simp only [Option.getD_none,Option.getD_some,AVR,std],by simp only [AV.ok]⟩
     ·injection h with h; injection h with h1 h2; subst h1; subst h2
      have:=hp _ rfl
      simp only [std] at this
      exact ⟨_,fun w=>hrun (by simpa using this) w,by simp only [Option.getD_none,Option.getD_some,AVR,std],by simp only [AV.ok]⟩
     ·injection h with h; injection h with h1 h2; subst h1; subst h2
      have:=hp _ rfl
      simp only [std] at this
      exact ⟨_,fun w=>hrun (by simpa using this) w,by simp only [Option.getD_none,Option.getD_some,AVR,std],by simp only [AV.ok]⟩
    ·cases h
   ·split at h
    ·rename_i hk0 hk
     simp only [Bool.and_eq_true,beq_iff_eq] at hk
     have hq:=Tab.at_ok hT (Tab.has_of (t:=t) (by rw [hk.1]; decide))
     have hqe:=Tab.at_ok hT hk.2
     have hrun:∀ {d:Option Addr} {len cap:Nat},a.eval u=.slice d len cap->∀ (hr:0<=l.getD 0/\l.getD 0<=hgh.getD len/\hgh.getD len<=cap) (hc:len<=cap) (w:World),(execOp a.eval { dst:=dst,op:=.slice t u lo hi none,type:=ty,pos:=pos,after:=after,guard:=guard }).run P w =
       .ok (.value (.slice (if cap=(l.getD 0).toNat then d else d.map (·.add ((l.getD 0).toNat*(tt.at (tt.at t).elem).sz))) ((hgh.getD len).toNat - (l.getD 0).toNat) (cap - (l.getD 0).toNat))) w:=by
      intro d len cap hu hr hc w
      simp only [execOp,hu]
      refine run_value ?_
      exact slice_run ht hq hk.1 hqe hl hhi hr hc w
     split at h
     ·rename_i b n' he
      split at h
      ·rename_i ow e c xs hr
       split at h
       ·rename_i hz
        have hz':c.sz=(tt.at (tt.at t).elem).sz:=by simpa using hz
        have hrb:=hb b _ _ _ _ hr
        have hzz:(β b).z=(tt.at (tt.at t).elem).sz:=by rw [hrb.z,hz']
        obtain ⟨⟨h1,h2,h3⟩,h4⟩:=ev_s ht he
        have hcn:((n'.toNat:Nat):Int)=n':=toNat_cast h1
        have hcap:=hrb.cap
        split at h
        ·injection h with h; injection h with h1 h2; subst h1; subst h2
         refine ⟨_,fun w=>hrun h3 (by simp [hcn]; omega) (by omega) w,?_,by simp only [AV.ok]; exact h4⟩
         simp only [Option.getD_none,hcn]
         exact cut_s hzz hcap (by omega) (by omega) (by omega)
        ·injection h with h; injection h with h1 h2; subst h1; subst h2
         have hg:=hp _ rfl
         simp only [std] at hg
         refine ⟨_,fun w=>hrun h3 (by simp only [Option.getD_none,Option.getD_some,hcn]; omega) (by omega) w,?_,by simp only [AV.ok]; exact h4⟩
         simp only [Option.getD_none,Option.getD_some,hcn,std]
         exact cut_sw hzz hcap (by omega) (by omega) (by omega)
        ·injection h with h; injection h with h1 h2; subst h1; subst h2
         have hg:=hp _ rfl
         simp only [std] at hg
         refine ⟨_,fun w=>hrun h3 (by simp only [Option.getD_none,Option.getD_some,hcn]; omega) (by omega) w,?_,by simp only [AV.ok]; exact h4⟩
         simp only [Option.getD_none,Option.getD_some,hcn,std]
         exact cut_s hzz hcap (n:=n') (by omega) (by omega) (by omega)
        ·injection h with h; injection h with h1 h2; subst h1; subst h2
         have hg:=hp _ rfl
         simp only [std] at hg
         have hrn:=hrb.n
         refine ⟨_,fun w=>hrun h3 (by simp only [Option.getD_none,Option.getD_some,hcn]; omega) (by omega) w,?_,by simp only [AV.ok]; exact h4⟩
         simp only [Option.getD_none,Option.getD_some,hcn,std]
         exact cut_sw hzz hcap (n:=(xs.length:Int)) (by omega) (by omega) (by omega)
       ·cases h
      ·cases h
     ·rename_i b o' n' he
      split at h
      ·rename_i ow e c xs hr
       split at h
       ·rename_i hz
        have hz':c.sz=(tt.at (tt.at t).elem).sz:=by simpa using hz
        have hrb:=hb b _ _ _ _ hr
        have hzz:(β b).z=(tt.at (tt.at t).elem).sz:=by rw [hrb.z,hz']
        obtain ⟨⟨h1,h2,h3,d',c',h4,h5,h6⟩,h7⟩:=ev_w ht he
        have hcn:((n'.toNat:Nat):Int)=n':=toNat_cast h2
        split at h
        ·injection h with h; injection h with e1 e2; subst e1; subst e2
         refine ⟨_,fun w=>hrun h4 (by simp [hcn]; omega) (by omega) w,?_,by simp only [AV.ok]; exact h7⟩
         simp only [Option.getD_none,hcn]
         exact cut_w hzz h1 h2 h3 h5 h6 (by omega)
        ·injection h with h; injection h with e1 e2; subst e1; subst e2
         have hg:=hp _ rfl
         simp only [std] at hg
         refine ⟨_,fun w=>hrun h4 (by simp only [Option.getD_none,Option.getD_some,hcn]; omega) (by omega) w,?_,by simp only [AV.ok]; exact h7⟩
         simp only [Option.getD_none,Option.getD_some,hcn,std]
         exact cut_ww hzz h1 h2 h3 h5 h6 (by omega)
        ·injection h with h; injection h with e1 e2; subst e1; subst e2
         have hg:=hp _ rfl
         simp only [std] at hg
         refine ⟨_,fun w=>hrun h4 (by simp only [Option.getD_none,Option.getD_some,hcn]; omega) (by omega) w,?_,by simp only [AV.ok]; exact h7⟩
         simp only [Option.getD_none,Option.getD_some,hcn,std]
         exact cut_w hzz h1 h2 h3 h5 h6 (by omega)
        ·injection h with h; injection h with e1 e2; subst e1; subst e2
         have hg:=hp _ rfl
         simp only [std] at hg
         refine ⟨_,fun w=>hrun h4 (by simp only [Option.getD_none,Option.getD_some,hcn]; omega) (by omega) w,?_,by simp only [AV.ok]; exact h7⟩
         simp only [Option.getD_none,Option.getD_some,hcn,std]
         exact cut_ww hzz h1 h2 h3 h5 h6 (by omega)
       ·cases h
      ·cases h
     ·rename_i he
      split at h
      ·injection h with h; injection h with h1 h2; subst h1; subst h2
       have hg:=hp _ rfl
       simp only [std] at hg
       refine ⟨_,fun w=>hrun (ev_c ht he) (by simp only [Option.getD_none,Option.getD_some]; omega) (Nat.le_refl _) w,?_,by simp only [AV.ok]⟩
       simp only [AVR,Option.getD_none,Option.getD_some]
       rename_i hv
       have e0:hv.toNat=0:=by omega
       rw [e0]; rfl
      ·cases h
     ·cases h
    ·split at h
     ·rename_i hk0 hk1 hk
      simp only [Bool.and_eq_true,beq_iff_eq] at hk
      have hq:=Tab.at_ok hT (Tab.has_of (t:=t) (by rw [hk.1]; decide))
      have hqe:=Tab.at_ok hT hk.2
      split at h
      ·rename_i b he
       split at h
       ·rename_i ow e c xs hr
        split at h
        ·rename_i hz
         have hz':c.sz=(tt.at (tt.at t).elem).sz:=by simpa using hz
         have hrb:=hb b _ _ _ _ hr
         have hzz:(β b).z=(tt.at (tt.at t).elem).sz:=by rw [hrb.z,hz']
         obtain ⟨⟨d,h1,hcap,h2⟩,h3⟩:=ev_arr ht he
         have hrun:∀ (hr:0<=l.getD 0/\l.getD 0<=hgh.getD (tt.at t).len/\hgh.getD (tt.at t).len<=(tt.at t).len) (w:World),(execOp a.eval { dst:=dst,op:=.slice t u lo hi none,type:=ty,pos:=pos,after:=after,guard:=guard }).run P w =
           .ok (.value (.slice (some (if (tt.at t).len=(l.getD 0).toNat then d else d.add ((l.getD 0).toNat*(tt.at (tt.at t).elem).sz))) ((hgh.getD (tt.at t).len).toNat - (l.getD 0).toNat) ((tt.at t).len - (l.getD 0).toNat))) w:=by
          intro hr w
          simp only [execOp,h2]
          refine run_value ?_
          exact sliceArr_run ht hq hk.1 hqe hl hhi hr w
         have hn:=hrb.n
         split at h
         ·injection h with h; injection h with e1 e2; subst e1; subst e2
          have hg:=hp _ rfl
          simp only [std] at hg
          refine ⟨_,fun w=>hrun (by simp) w,?_,by simp only [AV.ok]; exact h3⟩
          simp only [Option.getD_none,std]
          refine avr_s (by omega) (by omega) ?_
          rw [h1]
          have:d.add 0=d:=by simp [Addr.add]
          simp only [Int.toNat_zero,Nat.zero_mul,Nat.sub_zero,this,ite_self,Int.toNat_natCast]
          congr 1
          omega
         ·injection h with h; injection h with e1 e2; subst e1; subst e2
          have hg:=hp _ rfl
          simp only [std] at hg
          refine ⟨_,fun w=>hrun (by simp only [Option.getD_none,Option.getD_some]; omega) w,?_,by simp only [AV.ok]; exact h3⟩
          simp only [Option.getD_none,Option.getD_some,std]
          rename_i lv
          refine avr_w (d:=some (if (tt.at t).len=lv.toNat then d else d.add (lv.toNat*(tt.at (tt.at t).elem).sz))) (c:=(tt.at t).len - lv.toNat) (by omega) (by omega) (by omega) ?_ (by omega) (fun hl=>?_)
          ·congr 1; omega
          ·rw [if_neg (by omega),h1,hzz]; rfl
         ·cases h
        ·cases h
       ·cases h
      ·cases h
     ·cases h
  ·rename_i mo l hgh hl hhi
   split at h
   ·rename_i km mm hmv
    split at h
    ·rename_i hk
     simp only [Bool.and_eq_true,beq_iff_eq] at hk
     have hq:=Tab.at_ok hT (Tab.has_of (t:=t) (by rw [hk.1]; decide))
     have hqe:=Tab.at_ok hT hk.2
     split at h
     ·rename_i b n' he
      split at h
      ·rename_i ow e c xs hr
       injection h with h; injection h with h1 h2; subst h1; subst h2
       have hg:=hp _ rfl
       simp only [std] at hg
       have hrb:=hb b _ _ _ _ hr
       obtain ⟨⟨h1,h2,h3⟩,h4⟩:=ev_s ht he
       have hcap:=hrb.cap
       refine ⟨.slice (if mm.toNat=l.toNat then (β b).a else (β b).a.map (·.add (l.toNat*(tt.at (tt.at t).elem).sz))) (hgh.toNat - l.toNat) (mm.toNat - l.toNat),fun w=>?_,by simp only [AVR],by simp only [AV.ok]⟩
       ·simp only [execOp,h3,Option.map_some,sv_eval ht hmv]
        refine run_value ?_
        exact slice3_run ht hq hk.1 hqe hl hhi (k:=km) (m:=mm) (by omega) w
      ·cases h
     ·cases h
    ·cases h
   ·cases h
  ·cases h
 | call c=>
  obtain ⟨callee,args,argTypes⟩:=c
  simp only [pureA] at h
  split at h
  ·rename_i u t ha hbt
   have ha':args=#[u]:=by apply Array.ext'; simpa using ha
   have hb':argTypes=#[t]:=by apply Array.ext'; simpa using hbt
   subst ha'; subst hb'
   split at h
   ·rename_i b he
    split at h
    ·rename_i hk
     have hk':(tt.at t).kind=4:=by simpa using hk
     injection h with h; injection h with h1 h2; subst h1; subst h2
     refine ⟨_,callLen rfl (fun w=>?_),(by first | exact avr_v | exact avr_c),by simp only [AV.ok]⟩
     rw [ev_v ht he]
     exact lens_run (Tab.at_ok hT (Tab.has_of (t:=t) (by rw [hk']; decide))) hk' _ _ _
    ·cases h
   ·rename_i b he
    split at h
    ·rename_i hk
     have hk':(tt.at t).kind=4:=by simpa using hk
     injection h with h; injection h with h1 h2; subst h1; subst h2
     refine ⟨_,callLen rfl (fun w=>?_),(by first | exact avr_v | exact avr_c),by simp only [AV.ok]⟩
     rw [ev_c ht he]
     exact lens_run (Tab.at_ok hT (Tab.has_of (t:=t) (by rw [hk']; decide))) hk' _ _ _
    ·cases h
   ·rename_i b l he
    split at h
    ·rename_i hk
     have hk':(tt.at t).kind=3:=by simpa using hk
     injection h with h; injection h with h1 h2; subst h1; subst h2
     obtain ⟨⟨h1,h2,h3⟩,h4⟩:=ev_s ht he
     refine ⟨_,callLen rfl (fun w=>?_),(by first | exact avr_v | exact avr_c),by simp only [AV.ok]⟩
     rw [h3]
     have:=len_run (P:=P) (Tab.at_ok hT (Tab.has_of (t:=t) (by rw [hk']; decide))) hk' ty (β b).a l.toNat (β b).cap w
     rw [this]
     have:((l.toNat:Nat):Int)=l:=by omega
     rw [this]
    ·cases h
   ·rename_i b o' l he
    split at h
    ·rename_i hk
     have hk':(tt.at t).kind=3:=by simpa using hk
     injection h with h; injection h with h1 h2; subst h1; subst h2
     obtain ⟨⟨h1,h2,h3,d',c',h4,h5,h6⟩,h7⟩:=ev_w ht he
     refine ⟨_,callLen rfl (fun w=>?_),(by first | exact avr_v | exact avr_c),by simp only [AV.ok]⟩
     rw [h4]
     have:=len_run (P:=P) (Tab.at_ok hT (Tab.has_of (t:=t) (by rw [hk']; decide))) hk' ty d' l.toNat c' w
     rw [this]
     have:((l.toNat:Nat):Int)=l:=by omega
     rw [this]
    ·cases h
   ·rename_i b o l c he
    split at h
    ·rename_i hk
     have hk':(tt.at t).kind=3:=by simpa using hk
     injection h with h; injection h with h1 h2; subst h1; subst h2
     refine ⟨_,callLen rfl (fun w=>?_),(by first | exact avr_v | exact avr_c),by simp only [AV.ok]⟩
     rw [(ev_q ht he).1]
     exact len_run (Tab.at_ok hT (Tab.has_of (t:=t) (by rw [hk']; decide))) hk' _ _ _ _ _
    ·cases h
   ·rename_i he
    split at h
    ·rename_i hk
     have hk':(tt.at t).kind=3:=by simpa using hk
     injection h with h; injection h with h1 h2; subst h1; subst h2
     refine ⟨_,callLen rfl (fun w=>?_),(by first | exact avr_v | exact avr_c),by simp only [AV.ok]⟩
     rw [ev_c ht he]
     exact len_run (Tab.at_ok hT (Tab.has_of (t:=t) (by rw [hk']; decide))) hk' _ _ _ _ _
    ·cases h
   ·rename_i he
    split at h
    ·rename_i hk
     have hk':(tt.at t).kind=3:=by simpa using hk
     injection h with h; injection h with h1 h2; subst h1; subst h2
     refine ⟨_,callLen rfl (fun w=>?_),(by first | exact avr_v | exact avr_c),by simp only [AV.ok]⟩
     rw [ev_v ht he]
     exact len_run (Tab.at_ok hT (Tab.has_of (t:=t) (by rw [hk']; decide))) hk' _ _ _ _ _
    ·cases h
   ·cases h
  ·rename_i u t ha hbt
   have ha':args=#[u]:=by apply Array.ext'; simpa using ha
   have hb':argTypes=#[t]:=by apply Array.ext'; simpa using hbt
   subst ha'; subst hb'
   split at h
   ·rename_i he
    split at h
    ·rename_i hk
     have hk':(tt.at t).kind=3:=by simpa using hk
     injection h with h; injection h with h1 h2; subst h1; subst h2
     refine ⟨_,callCap rfl (fun w=>?_),(by first | exact avr_v | exact avr_c),by simp only [AV.ok]⟩
     rw [ev_c ht he]
     exact cap_run (Tab.at_ok hT (Tab.has_of (t:=t) (by rw [hk']; decide))) hk' _ _ _ _ _
    ·cases h
   ·cases h
  ·rename_i u v ha
   have ha':args=#[u,v]:=by apply Array.ext'; simpa using ha
   subst ha'
   split at h
   ·rename_i k1 k y k2 k' z hy hz
    split at h
    ·rename_i hk
     have:=same_eq hk; subst this
     injection h with h; injection h with h1 h2; subst h1; subst h2
     exact ⟨_,callMax rfl (sv_eval ht hy) (sv_eval ht hz),avr_v,by simp only [AV.ok]⟩
    ·cases h
   ·cases h
  ·rename_i u v ha
   have ha':args=#[u,v]:=by apply Array.ext'; simpa using ha
   subst ha'
   split at h
   ·rename_i k1 k y k2 k' z hy hz
    split at h
    ·rename_i hk
     have:=same_eq hk; subst this
     injection h with h; injection h with h1 h2; subst h1; subst h2
     exact ⟨_,callMin rfl (sv_eval ht hy) (sv_eval ht hz),avr_v,by simp only [AV.ok]⟩
    ·cases h
   ·cases h
  ·cases h
 | _=>simp only [pureA] at h; cases h
end
end Go.Proofs.YtkipmmiiackdaaaGreat.Sx
