/- Part 3 of what the statement needs: an executor of Go texts, arithmetic, and contracts of the functions that are called. -/
import Derived.Test.YtkipmmiiackdaaaGreatCi2
set_option linter.unusedSimpArgs false
set_option linter.unusedVariables false
namespace Go.Proofs.YtkipmmiiackdaaaGreat.Sx
open Env (std)
open Go.RowKit Go.Proofs.YtkipmmiiackdaaaGreatW.PrintLast Go.Proofs.YtkipmmiiackdaaaGreatW.PrintWords
section
variable {β β':Nat->Loc}
theorem AVRs_length:∀ {l:List AV} {vs:List Value},AVRs β l vs->vs.length=l.length
 | [],vs,h=>by simp only [AVRs] at h; subst h; rfl
 | x::l,vs,h=>by
  obtain ⟨u,us,rfl,_,h2⟩:=h
  simp [AVRs_length h2]
theorem AVRs_get:∀ {l:List AV} {vs:List Value},AVRs β l vs->∀ {i:Nat} {x:AV},l[i]?=some x->∃ u,vs[i]?=some u/\AVR β x u
 | [],vs,h,i,x,hx=>by simp at hx
 | y::l,vs,h,i,x,hx=>by
  obtain ⟨u,us,rfl,h1,h2⟩:=h
  cases i with
  | zero=>simp at hx; subst hx; exact ⟨u,rfl,h1⟩
  | succ i=>simp at hx; simpa using AVRs_get h2 hx
theorem AVRs_of:∀ {l:List AV} {vs:List Value},vs.length=l.length->(∀ (i:Nat) x u,l[i]?=some x->vs[i]?=some u->AVR β x u)->AVRs β l vs
 | [],vs,h,_=>by cases vs with
  | nil=>rfl
  | cons _ _=>simp at h
 | x::l,vs,h,hg=>by
  cases vs with
  | nil=>simp at h
  | cons u us=>exact ⟨u,us,rfl,hg 0 x u rfl rfl,AVRs_of (by simpa using h) (fun i y v hy hv=>hg (i+1) y v (by simpa using hy) (by simpa using hv))⟩
theorem AVRs.nil:AVRs β [] []:=rfl
theorem AVRs.cons {x:AV} {u:Value} {l:List AV} {us:List Value} (h:AVR β x u) (hs:AVRs β l us):AVRs β (x::l) (u::us):=⟨u,us,rfl,h,hs⟩
theorem AVRs.append:∀ {l l':List AV} {us us':List Value},AVRs β l us->AVRs β l' us'->AVRs β (l++l') (us++us')
 | [],l',us,us',h,h'=>by simp only [AVRs] at h; subst h; exact h'
 | x::l,l',us,us',h,h'=>by
  obtain ⟨u,r,rfl,h1,h2⟩:=h
  exact ⟨u,r++us',rfl,h1,h2.append h'⟩
theorem AVRs.vs (l:List Value):AVRs β (l.map .v) l:=by
 induction l with
 | nil=>rfl
 | cons a l ih=>exact ⟨a,l,rfl,rfl,ih⟩
theorem AVRs.take {l:List AV} {us:List Value} (h:AVRs β l us) (n:Nat):AVRs β (l.take n) (us.take n):=by
 refine AVRs_of (by simp [AVRs_length h]) (fun i x u hx hu=>?_)
 rw [List.getElem?_take] at hx hu
 split at hx
 ·rename_i hlt
  rw [if_pos hlt] at hu
  obtain ⟨v,hv,hr⟩:=AVRs_get h hx
  rw [hu] at hv; injection hv with hv; subst hv; exact hr
 ·cases hx
theorem AVRs.drop {l:List AV} {us:List Value} (h:AVRs β l us) (n:Nat):AVRs β (l.drop n) (us.drop n):=by
 refine AVRs_of (by simp [AVRs_length h]) (fun i x u hx hu=>?_)
 rw [List.getElem?_drop] at hx hu
 obtain ⟨v,hv,hr⟩:=AVRs_get h hx
 rw [hu] at hv; injection hv with hv; subst hv; exact hr
theorem AVRs.set {l:List AV} {us:List Value} (h:AVRs β l us) {x:AV} {u:Value} (hx:AVR β x u) (i:Nat):AVRs β (l.set i x) (us.set i u):=by
 refine AVRs_of (by simp [AVRs_length h]) (fun j y v hy hv=>?_)
 rw [List.getElem?_set] at hy hv
 split at hy
 ·rename_i e; subst e
  rw [if_pos rfl] at hv
  split at hy
  ·rename_i hlt
   rw [if_pos (by rw [AVRs_length h]; exact hlt)] at hv
   injection hy with hy; subst hy; injection hv with hv; subst hv; exact hx
  ·cases hy
 ·rename_i e
  rw [if_neg e] at hv
  obtain ⟨z,hz,hr⟩:=AVRs_get h hy
  rw [hv] at hz; injection hz with hz; subst hz; exact hr
theorem AVRs.put:∀ {xs:List AV} {us:List Value} {l:List AV} {cs:List Value} (o:Nat),AVRs β l cs->AVRs β xs us->AVRs β (putAV l o xs) (putAt cs o us)
 | [],us,l,cs,o,h,hx=>by simp only [AVRs] at hx; subst hx; exact h
 | x::xs,us,l,cs,o,h,hx=>by
  obtain ⟨u,r,rfl,h1,h2⟩:=hx
  exact AVRs.put (o+1) (h.set h1 o) h2
mutual
theorem AVR_congr:∀ {n:Nat} {x:AV} {y:Value},x.ok n->(∀ i,i < n->β' i=β i)->AVR β x y->AVR β' x y
 | _,.any,_,_,_,_=>by simp only [AVR]
 | _,.c _,_,_,_,h=>by simp only [AVR] at h ⊢; exact h
 | _,.v _,_,_,_,h=>by simp only [AVR] at h ⊢; exact h
 | _,.p b o,_,hk,hb,h=>by simp only [AVR,AV.ok] at h hk ⊢; rw [hb b hk]; exact h
 | _,.q b o l c,_,hk,hb,h=>by simp only [AVR,AV.ok] at h hk ⊢; rw [hb b hk]; exact h
 | _,.e b i o,_,hk,hb,h=>by simp only [AVR,AV.ok] at h hk ⊢; rw [hb b hk]; exact h
 | _,.s b l,_,hk,hb,h=>by simp only [AVR,AV.ok] at h hk ⊢; rw [hb b hk]; exact h
 | _,.w b o l,_,hk,hb,h=>by simp only [AVR,AV.ok] at h hk ⊢; rw [hb b hk]; exact h
 | _,.arr b,_,hk,hb,h=>by simp only [AVR,AV.ok] at h hk ⊢; rw [hb b hk]; exact h
 | _,.yl b,_,hk,hb,h=>by simp only [AVR,AV.ok] at h hk ⊢; rw [hb b hk]; exact h
 | _,.fn g f c,_,hk,hb,h=>by
  simp only [AVR,AV.ok] at h hk ⊢
  obtain ⟨fs,cs,h1,h2,h3⟩:=h
  exact ⟨fs,cs,h1,AVRs_congr hk.1 hb h2,AVRs_congr hk.2 hb h3⟩
 | _,.tup l,_,hk,hb,h=>by
  simp only [AVR,AV.ok] at h hk ⊢
  obtain ⟨vs,h1,h2⟩:=h
  exact ⟨vs,h1,AVRs_congr hk hb h2⟩
 | _,.agg l,_,hk,hb,h=>by
  simp only [AVR,AV.ok] at h hk ⊢
  obtain ⟨vs,h1,h2⟩:=h
  exact ⟨vs,h1,AVRs_congr hk hb h2⟩
theorem AVRs_congr:∀ {n:Nat} {l:List AV} {vs:List Value},AV.oks n l->(∀ i,i < n->β' i=β i)->AVRs β l vs->AVRs β' l vs
 | _,[],_,_,_,h=>by simp only [AVRs] at h ⊢; exact h
 | _,x::l,_,hk,hb,h=>by
  simp only [AVRs,AV.oks] at h hk ⊢
  obtain ⟨u,us,h1,h2,h3⟩:=h
  exact ⟨u,us,h1,AVR_congr hk.1 hb h2,AVRs_congr hk.2 hb h3⟩
end
mutual
theorem AV.ok_mono:∀ {n m:Nat} {x:AV},x.ok n->n<=m->x.ok m
 | _,_,.any,_,_=>by simp only [AV.ok]
 | _,_,.c _,_,_=>by simp only [AV.ok]
 | _,_,.v _,_,_=>by simp only [AV.ok]
 | _,_,.p b o,h,hm=>by simp only [AV.ok] at h ⊢; omega
 | _,_,.q b o l k,h,hm=>by simp only [AV.ok] at h ⊢; omega
 | _,_,.e b i o,h,hm=>by simp only [AV.ok] at h ⊢; omega
 | _,_,.s b l,h,hm=>by simp only [AV.ok] at h ⊢; omega
 | _,_,.w b o l,h,hm=>by simp only [AV.ok] at h ⊢; omega
 | _,_,.arr b,h,hm=>by simp only [AV.ok] at h ⊢; omega
 | _,_,.yl b,h,hm=>by simp only [AV.ok] at h ⊢; omega
 | _,_,.fn g f k,h,hm=>by simp only [AV.ok] at h ⊢; exact ⟨AV.oks_mono h.1 hm,AV.oks_mono h.2 hm⟩
 | _,_,.tup l,h,hm=>by simp only [AV.ok] at h ⊢; exact AV.oks_mono h hm
 | _,_,.agg l,h,hm=>by simp only [AV.ok] at h ⊢; exact AV.oks_mono h hm
theorem AV.oks_mono:∀ {n m:Nat} {l:List AV},AV.oks n l->n<=m->AV.oks m l
 | _,_,[],_,_=>by simp only [AV.oks]
 | _,_,x::l,h,hm=>by simp only [AV.oks] at h ⊢; exact ⟨AV.ok_mono h.1 hm,AV.oks_mono h.2 hm⟩
end
theorem oks_mem {n:Nat}:∀ {l:List AV},AV.oks n l->∀ x ∈ l,x.ok n
 | [],_,x,hx=>by cases hx
 | y::l,h,x,hx=>by
  simp only [AV.oks] at h
  rcases List.mem_cons.1 hx with rfl | hx
  ·exact h.1
  ·exact oks_mem h.2 x hx
theorem oks_of {n:Nat}:∀ {l:List AV},(∀ x ∈ l,x.ok n)->AV.oks n l
 | [],_=>by simp only [AV.oks]
 | y::l,h=>by simp only [AV.oks]; exact ⟨h y (by simp),oks_of (fun x hx=>h x (by simp [hx]))⟩
theorem oks_append {n:Nat} {l l':List AV} (h:AV.oks n l) (h':AV.oks n l'):AV.oks n (l++l'):=
 oks_of fun x hx=>(List.mem_append.1 hx).elim (oks_mem h x) (oks_mem h' x)
theorem oks_vs {n:Nat} (l:List Value):AV.oks n (l.map .v):=oks_of fun x hx=>by
 obtain ⟨y,_,rfl⟩:=List.mem_map.1 hx; simp only [AV.ok]
theorem oks_take {n:Nat} {l:List AV} (h:AV.oks n l) (k:Nat):AV.oks n (l.take k):=oks_of fun x hx=>oks_mem h x (List.mem_of_mem_take hx)
theorem oks_drop {n:Nat} {l:List AV} (h:AV.oks n l) (k:Nat):AV.oks n (l.drop k):=oks_of fun x hx=>oks_mem h x (List.mem_of_mem_drop hx)
theorem putAt_length:∀ (xs cs:List Value) (o:Nat),(putAt cs o xs).length=cs.length
 | [],cs,o=>rfl
 | x::xs,cs,o=>by simp [putAt,putAt_length xs]
theorem putAV_mem:∀ {xs l:List AV} {o:Nat} {y:AV},y ∈ putAV l o xs->y ∈ l\/y ∈ xs
 | [],l,o,y,h=>.inl h
 | x::xs,l,o,y,h=>by
  simp only [putAV] at h
  rcases putAV_mem h with h | h
  ·rcases List.mem_or_eq_of_mem_set h with h | h
   ·exact .inl h
   ·exact .inr (by simp [h])
  ·exact .inr (by simp [h])
theorem cells_rel {x:AV} {v:Value} (h:AVR β x v) (hx:x ≠ .any) (ht:∀ l,x ≠ .tup l):AVRs β (cellsOf x) v.cells.toList:=by
 cases x with
 | any=>exact absurd rfl hx
 | tup l=>exact absurd rfl (ht l)
 | c y=>
  simp only [AVR] at h; subst h
  cases v with
  | agg cs=>exact AVRs.vs _
  | _=>exact AVRs.cons (by simp only [AVR]) AVRs.nil
 | v y=>
  simp only [AVR] at h; subst h
  cases v with
  | agg cs=>exact AVRs.vs _
  | _=>exact AVRs.cons (by simp only [AVR]) AVRs.nil
 | agg l=>simp only [AVR] at h; obtain ⟨vs,rfl,h⟩:=h; exact h
 | p b o=>have h':=h; simp only [AVR] at h'; subst h'; exact AVRs.cons h AVRs.nil
 | q b o l c=>have h':=h; simp only [AVR] at h'; subst h'; exact AVRs.cons h AVRs.nil
 | e b i o=>have h':=h; simp only [AVR] at h'; obtain ⟨_,_,a,_,rfl⟩:=h'; exact AVRs.cons h AVRs.nil
 | s b l=>have h':=h; simp only [AVR] at h'; obtain ⟨_,_,rfl⟩:=h'; exact AVRs.cons h AVRs.nil
 | w b o l=>have h':=h; simp only [AVR] at h'; obtain ⟨_,_,_,a,c,rfl,_⟩:=h'; exact AVRs.cons h AVRs.nil
 | arr b=>have h':=h; simp only [AVR] at h'; obtain ⟨a,_,_,rfl⟩:=h'; exact AVRs.cons h AVRs.nil
 | fn g f c=>have h':=h; simp only [AVR] at h'; obtain ⟨fs,cs,rfl,_⟩:=h'; exact AVRs.cons h AVRs.nil
 | yl b=>have h':=h; simp only [AVR] at h'; subst h'; exact AVRs.cons h AVRs.nil
theorem cells_ok {x:AV} {m:Nat} (h:x.ok m):AV.oks m (cellsOf x):=by
 cases x with
 | v u=>cases u with
  | agg cs=>exact oks_vs _
  | _=>simp only [cellsOf,AV.oks,AV.ok]; trivial
 | c u=>cases u with
  | agg cs=>exact oks_vs _
  | _=>simp only [cellsOf,AV.oks,AV.ok]; trivial
 | agg l=>simp only [AV.ok] at h; exact h
 | _=>simp only [cellsOf,AV.oks]; exact ⟨h,trivial⟩
theorem one_rel {x:AV} {u:Value} (h:AVR β x u) (ho:x.one=true):u.oneCell'=true:=by
 cases x with
 | any=>simp [AV.one] at ho
 | tup l=>simp [AV.one] at ho
 | agg l=>simp [AV.one] at ho
 | v y=>simp only [AVR] at h; subst h; cases u<;>simp [AV.one] at ho<;>rfl
 | c y=>simp only [AVR] at h; subst h; cases u<;>simp [AV.one] at ho<;>rfl
 | p b o=>simp only [AVR] at h; subst h; rfl
 | q b o l c=>simp only [AVR] at h; subst h; rfl
 | e b i o=>simp only [AVR] at h; obtain ⟨_,_,a,_,rfl⟩:=h; rfl
 | s b l=>simp only [AVR] at h; obtain ⟨_,_,rfl⟩:=h; rfl
 | w b o l=>simp only [AVR] at h; obtain ⟨_,_,_,a,c,rfl,_⟩:=h; rfl
 | arr b=>simp only [AVR] at h; obtain ⟨a,_,_,rfl⟩:=h; rfl
 | fn g f c=>simp only [AVR] at h; obtain ⟨fs,cs,rfl,_⟩:=h; rfl
 | yl b=>simp only [AVR] at h; subst h; rfl
theorem AV.one_ne {x:AV} (h:(cellsOf x).all AV.one=true):x ≠ .any/\∀ l,x ≠ .tup l:=by
 constructor
 ·rintro rfl; simp [cellsOf,AV.one] at h
 ·rintro l rfl; simp [cellsOf,AV.one] at h
theorem one_all {l:List AV} {us:List Value} (h:AVRs β l us) (ho:l.all AV.one=true):∀ u ∈ us,u.oneCell'=true:=by
 intro u hu
 obtain ⟨j,hj⟩:=List.getElem?_of_mem hu
 have hjlt:j < l.length:=by rw [<-AVRs_length h]; exact (List.getElem?_eq_some_iff.1 hj).1
 obtain ⟨v,hv,hr⟩:=AVRs_get h (List.getElem?_eq_getElem hjlt)
 rw [hj] at hv; injection hv with hv; subst hv
 exact one_rel hr (List.all_eq_true.1 ho _ (List.getElem_mem hjlt))
theorem plain_rel:∀ {l:List AV} {r us:List Value},plain l=some r->AVRs β l us->us=r
 | [],r,us,h,hr=>by simp only [plain] at h; injection h with h; subst h; exact hr
 | .v x::l,r,us,h,hr=>by
  simp only [plain] at h
  obtain ⟨u,vs,rfl,h1,h2⟩:=hr
  split at h
  ·rename_i q hq
   injection h with h; subst h
   simp only [AVR] at h1; subst h1
   rw [plain_rel hq h2]
  ·cases h
 | .c x::l,r,us,h,hr=>by
  simp only [plain] at h
  obtain ⟨u,vs,rfl,h1,h2⟩:=hr
  split at h
  ·rename_i q hq
   injection h with h; subst h
   simp only [AVR] at h1; subst h1
   rw [plain_rel hq h2]
  ·cases h
 | .any::_,_,_,h,_=>by simp [plain] at h
 | .p _ _::_,_,_,h,_=>by simp [plain] at h
 | .q _ _ _ _::_,_,_,h,_=>by simp [plain] at h
 | .e _ _ _::_,_,_,h,_=>by simp [plain] at h
 | .s _ _::_,_,_,h,_=>by simp [plain] at h
 | .w _ _ _::_,_,_,h,_=>by simp [plain] at h
 | .arr _::_,_,_,h,_=>by simp [plain] at h
 | .yl _::_,_,_,h,_=>by simp [plain] at h
 | .fn _ _ _::_,_,_,h,_=>by simp [plain] at h
 | .tup _::_,_,_,h,_=>by simp [plain] at h
 | .agg _::_,_,_,h,_=>by simp [plain] at h
theorem mkAgg_rel {l:List AV} {us:List Value} (h:AVRs β l us):AVR β (mkAgg l) (.agg us.toArray):=by
 unfold mkAgg
 split
 ·rename_i r hr
  rw [plain_rel hr h]; simp only [AVR]
 ·simp only [AVR]; exact ⟨_,rfl,h⟩
theorem mkAgg_ok {l:List AV} {n:Nat} (h:AV.oks n l):(mkAgg l).ok n:=by
 unfold mkAgg
 split
 ·simp only [AV.ok]
 ·simp only [AV.ok]; exact h
theorem val_rel {x:AV} {b:Bool} {u y:Value} (h:x.val=some (b,u)) (hr:AVR β x y):y=u:=by
 cases x<;>simp [AV.val] at h
 ·simp only [AVR] at hr; rw [hr,h.2]
 ·simp only [AVR] at hr; rw [hr,h.2]
end
end Go.Proofs.YtkipmmiiackdaaaGreat.Sx
namespace Go.Proofs.YtkipmmiiackdaaaGreat.Sx
open Env (std)
open Go.RowKit Go.Proofs.YtkipmmiiackdaaaGreatW.PrintLast Go.Proofs.YtkipmmiiackdaaaGreatW.PrintWords
section
variable {P:Program} {β:Nat->Loc} {n:Nat} {s:St} {a:Act} {ds:List Deferred}
theorem ev_rel (ht:RelT ds β n s.t a) (x:Operand):AVR β (ev s x) (a.eval x)/\(ev s x).ok n:=by
 cases x with
 | tmp t=>
  simp only [ev,Act.eval]
  cases e:s.t[t]? with
  | none=>rw [List.getD_eq_getElem?_getD,e]; simp only [Option.getD_none,AVR,AV.ok]; exact ⟨trivial,trivial⟩
  | some y=>
   rw [List.getD_eq_getElem?_getD,e]
   obtain ⟨u,hu,hr⟩:=AVRs_get ht.rel e
   have:a.tmps.getD t undef=u:=by rw [Array.getD_eq_getD_getElem?,<-Array.getElem?_toList,hu]; rfl
   rw [this]
   exact ⟨hr,oks_mem ht.ok y (List.mem_of_getElem? e)⟩
 | const v=>simp only [ev,Act.eval,AVR,AV.ok]; exact ⟨trivial,trivial⟩
 | func f=>simp only [ev,Act.eval,AVR,AV.ok]; exact ⟨trivial,trivial⟩
 | global g=>simp only [ev,AVR,AV.ok]; exact ⟨trivial,trivial⟩
theorem ev_at (ht:RelT ds β n s.t a) {x:Operand} {y:AV} (h:ev s x=y):AVR β y (a.eval x)/\y.ok n:=by
 have:=ev_rel ht x; rw [h] at this; exact this
theorem ev_c (ht:RelT ds β n s.t a) {x:Operand} {v:Value} (h:ev s x=.c v):a.eval x=v:=by
 have:=(ev_at ht h).1; simpa only [AVR] using this
theorem ev_v (ht:RelT ds β n s.t a) {x:Operand} {v:Value} (h:ev s x=.v v):a.eval x=v:=by
 have:=(ev_at ht h).1; simpa only [AVR] using this
theorem ev_p (ht:RelT ds β n s.t a) {x:Operand} {b o:Nat} (h:ev s x=.p b o):a.eval x=.pointer (some ⟨(β b).g,o,none⟩)/\b < n:=by
 have:=ev_at ht h; simpa only [AVR,AV.ok] using this
theorem ev_q (ht:RelT ds β n s.t a) {x:Operand} {b o l c:Nat} (h:ev s x=.q b o l c):a.eval x=.slice (some ⟨(β b).g,o,none⟩) l c/\b < n:=by
 have:=ev_at ht h; simpa only [AVR,AV.ok] using this
theorem ev_e (ht:RelT ds β n s.t a) {x:Operand} {b o:Nat} {i:Int} (h:ev s x=.e b i o):(0<=i/\i < (β b).n/\∃ d,(β b).a=some d/\a.eval x=.pointer (some (d.add (i.toNat*(β b).z+o))))/\b < n:=by
 have:=ev_at ht h; simpa only [AVR,AV.ok] using this
theorem ev_s (ht:RelT ds β n s.t a) {x:Operand} {b:Nat} {l:Int} (h:ev s x=.s b l):(0<=l/\l<=(β b).n/\a.eval x=.slice (β b).a l.toNat (β b).cap)/\b < n:=by
 have:=ev_at ht h; simpa only [AVR,AV.ok] using this
theorem ev_w (ht:RelT ds β n s.t a) {x:Operand} {b:Nat} {o l:Int} (h:ev s x=.w b o l):(0<=o/\0<=l/\o+l<=(β b).n/\∃ d c,a.eval x=.slice d l.toNat c/\l.toNat<=c/\(0 < l->d=(β b).a.map (·.add (o.toNat*(β b).z))))/\b < n:=by
 have:=ev_at ht h; simpa only [AVR,AV.ok] using this
theorem ev_arr (ht:RelT ds β n s.t a) {x:Operand} {b:Nat} (h:ev s x=.arr b):(∃ d,(β b).a=some d/\(β b).cap=(β b).n/\a.eval x=.pointer (some d))/\b < n:=by
 have:=ev_at ht h; simpa only [AVR,AV.ok] using this
theorem sv_eval (ht:RelT ds β n s.t a) {x:Operand} {b:Bool} {v:Value} (h:sv s x=some (b,v)):a.eval x=v:=val_rel h (ev_rel ht x).1
theorem Tab.at_ok {tt:Tab} (hT:TabOk P tt) {t:TypeId} (h:tt.has t=true):TyOk P t (tt.at t):=by
 unfold Tab.has at h; unfold Tab.at
 obtain ⟨e,he⟩:=Option.isSome_iff_exists.1 h
 rw [he]
 have h1:=List.find?_some he
 have h2:=hT e (List.mem_of_find?_eq_some he)
 have h3:e.1=t:=by simpa using h1
 rw [h3] at h2; exact h2
theorem Tab.has_of {tt:Tab} {t:TypeId} (h:(tt.at t).kind ≠ 0):tt.has t=true:=by
 unfold Tab.has
 unfold Tab.at at h
 cases e:tt.find? fun e=>e.1 == t with
 | none=>rw [e] at h; exact absurd rfl h
 | some x=>rfl
theorem TyOk.und' {t:TypeId} {ti:TI} (h:TyOk P t ti):∃ d,P.underlying t=some d/\kindB d=ti.kind/\elemB d=ti.elem/\ikB d=ti.ik/\fldsB P d=ti.flds/\fldsOk P d=true/\lenB d=ti.len:=by
 obtain ⟨d,hd,he⟩:=Option.map_eq_some_iff.1 h.und
 simp only [Prod.mk.injEq] at he
 exact ⟨d,hd,he.1,he.2.1,he.2.2.1,he.2.2.2.1,he.2.2.2.2.1,he.2.2.2.2.2⟩
theorem TyOk.info' {t:TypeId} {ti:TI} (h:TyOk P t ti):∃ i,P.info? t=some i/\i.zero=some (if isAggB ti.kind then .agg ti.zero.toArray else ti.zero.headD undef)/\i.size=ti.sz/\i.bytes=ti.bytes:=by
 obtain ⟨i,hi,he⟩:=Option.map_eq_some_iff.1 h.info
 simp only [Prod.mk.injEq] at he
 exact ⟨i,hi,he.1,he.2.1,he.2.2⟩
theorem run_und {t:TypeId} {d:TypeDesc} (h:P.underlying t=some d) (w:World):(underlying t).run P w=.ok d w:=run_underlying h w
theorem run_size {t:TypeId} {ti:TI} (h:TyOk P t ti) (w:World):(sizeOf t).run P w=.ok ti.sz w:=by
 obtain ⟨i,hi,_,hz,_⟩:=h.info'
 simp [sizeOf,typeInfo,hi,hz]
theorem run_isAgg {t:TypeId} {ti:TI} (h:TyOk P t ti) (w:World):(isAgg t).run P w=.ok (isAggB ti.kind) w:=by
 obtain ⟨d,hd,hk,_⟩:=h.und'
 rw [<-hk]
 unfold isAgg
 rw [Sem.run_bind,run_und hd]
 cases d<;>rfl
theorem zero_cells {t:TypeId} {ti:TI} (h:TyOk P t ti):(if isAggB ti.kind then Value.agg ti.zero.toArray else ti.zero.headD undef).cells=ti.zero.toArray:=by
 cases e:isAggB ti.kind with
 | true=>rfl
 | false=>
  obtain ⟨x,hx,hc⟩:=h.one e
  rw [hx]
  simp only [Bool.false_eq_true,if_false,List.headD_cons]
  rw [hc]
theorem run_zero {t:TypeId} {ti:TI} (h:TyOk P t ti) (w:World):(zeroValue t).run P w=.ok (if isAggB ti.kind then .agg ti.zero.toArray else ti.zero.headD undef) w:=by
 obtain ⟨i,hi,hz,_⟩:=h.info'
 simp only [zeroValue,typeInfo,Sem.run_bind,run_program,Result.andThen_ok,hi,Sem.run_pure,hz]
theorem same_eq {k k':IntKind} (h:IntKind.same k k'=true):k=k':=by
 cases k<;>cases k'<;>first | rfl | cases h
theorem isAr_run (op:BinOp) (k:IntKind) (x y:Int) (t:TypeId) (X Y:Operand) (w:World) (h:isAr op=true) :
  (do eqGuard op t X Y (.int k x) (.int k y); binOp op t (.int k x) (.int k y)).run P w=.ok (.int k (std.ib op k x y)) w:=by
 cases op<;>simp [isAr] at h<;>simp [eqGuard_at_int,binOp_add,binOp_sub,binOp_mul,binOp_and,binOp_or,binOp_xor,binOp_andNot,Op.intArith,Op.intBits,std]
theorem isCmp_run (op:BinOp) (k:IntKind) (x y:Int) (t:TypeId) (X Y:Operand) (w:World) (h:isCmp op=true) :
  (do eqGuard op t X Y (.int k x) (.int k y); binOp op t (.int k x) (.int k y)).run P w=.ok (.bool (std.ic op x y)) w:=by
 cases op<;>simp [isCmp] at h<;>simp [eqGuard_at_int,binOp_eql,binOp_neq,binOp_lss,binOp_leq,binOp_gtr,binOp_geq,std]
theorem isDiv_run (op:BinOp) (k:IntKind) (x y:Int) (t:TypeId) (X Y:Operand) (w:World) (h:isDiv op=true) (hs:BinOp.isShift op=false) (hn:std.nz op y) :
  (do eqGuard op t X Y (.int k x) (.int k y); binOp op t (.int k x) (.int k y)).run P w=.ok (.int k (std.ib op k x y)) w:=by
 cases op<;>simp [isDiv,BinOp.isShift] at h hs<;>simp [std] at hn<;>simp [eqGuard_at_int,binOp_quo,binOp_rem,Op.intDiv,hn,std]
theorem isShift_run (op:BinOp) (k k':IntKind) (x y:Int) (t:TypeId) (X Y:Operand) (w:World) (hs:BinOp.isShift op=true) (hn:std.nz op y) :
  (do eqGuard op t X Y (.int k x) (.int k' y); binOp op t (.int k x) (.int k' y)).run P w=.ok (.int k (std.ib op k x y)) w:=by
 cases op<;>simp [BinOp.isShift] at hs<;>simp [std] at hn<;>simp [eqGuard_at_int,binOp_shl,binOp_shr,Op.shift,show ¬ y < 0 by omega,std]
theorem binA_sound {tt:Tab} (hT:TabOk P tt) {op:BinOp} {t:TypeId} {x y:Value} {p:Option Prop} {v:Value} (h:binA std tt op t x y=some (p,v)) (hp:∀ q,p=some q->q) (X Y:Operand) (w:World) :
  (do eqGuard op t X Y x y; binOp op t x y).run P w=.ok v w:=by
 unfold binA at h
 split at h
 ·rename_i k a k' b
  split at h
  ·rename_i hs
   injection h with h; injection h with h1 h2; subst h1; subst h2
   exact isShift_run op k k' a b t X Y w hs (hp _ rfl)
  ·rename_i hs
   split at h
   ·rename_i hk
    have:=same_eq hk; subst this
    split at h
    ·rename_i hc
     injection h with h; injection h with h1 h2; subst h1; subst h2
     exact isCmp_run op k a b t X Y w hc
    ·split at h
     ·rename_i hd
      injection h with h; injection h with h1 h2; subst h1; subst h2
      exact isDiv_run op k a b t X Y w hd (by simpa using hs) (hp _ rfl)
     ·split at h
      ·rename_i ha
       injection h with h; injection h with h1 h2; subst h1; subst h2
       exact isAr_run op k a b t X Y w ha
      ·cases h
   ·cases h
 ·rename_i a b
  split at h
  ·rename_i hk
   have hk':(tt.at t).kind=6:=by simpa using hk
   obtain ⟨d,hd,hkd,_⟩:=(Tab.at_ok hT (Tab.has_of (t:=t) (by rw [hk']; decide))).und'
   have hq:(Op.equal t (.bool a) (.bool b)).run P w=.ok (a == b) w:=by
    unfold Op.equal Op.maxDepth Op.equalIn
    rw [Sem.run_bind,run_und hd]
    rw [hk'] at hkd
    cases d<;>simp [kindB] at hkd
    rfl
   split at h
   ·injection h with h; injection h with h1 h2; subst h1; subst h2
    simp [eqGuard_at_bool,binOp,std,hq]
   ·injection h with h; injection h with h1 h2; subst h1; subst h2
    simp [eqGuard_at_bool,binOp,std,hq]
   ·cases h
  ·cases h
 ·split at h
  ·injection h with h; injection h with h1 h2; subst h1; subst h2
   simp [eqGuard_at_string,binOp,Op.stringOp,std]
  ·injection h with h; injection h with h1 h2; subst h1; subst h2
   simp [eqGuard_at_string,binOp,Op.stringOp,std]
  ·injection h with h; injection h with h1 h2; subst h1; subst h2
   simp [eqGuard_at_string,binOp,Op.stringOp,std]
  ·injection h with h; injection h with h1 h2; subst h1; subst h2
   simp [eqGuard_at_string,binOp,Op.stringOp,std]
  ·injection h with h; injection h with h1 h2; subst h1; subst h2
   have hf:=hp _ rfl
   simp only [std] at hf
   simp [eqGuard_at_string,binOp,Op.stringOp,std]
   exact hf.2.1
  ·cases h
 ·split at h
  ·rename_i hs
   simp only [Bool.and_eq_true] at hs
   obtain ⟨⟨h1,h2⟩,h3⟩:=hs
   have hh:tt.has t=true:=by
    unfold Tab.has; unfold Tab.at at h1
    cases e:tt.find? fun e=>e.1 == t with
    | none=>rw [e] at h1; cases h1
    | some x=>rfl
   have ho:=Tab.at_ok hT hh
   obtain ⟨_,hq⟩:=ho.eq h1
   split at h
   ·injection h with h; injection h with h4 h5; subst h4; subst h5
    exact (hq _ _ w X Y h2 h3).1
   ·injection h with h; injection h with h4 h5; subst h4; subst h5
    exact (hq _ _ w X Y h2 h3).2
   ·cases h
  ·cases h
 ·cases h
theorem run_value {m:Sem Value} {y:Value} {w:World} (h:m.run P w=.ok y w):(do pure (Next.value (<- m)):Sem Next).run P w=.ok (.value y) w:=by
 rw [Sem.run_bind,h]; rfl
theorem fld_get {t:TypeId} {ti:TI} (h:TyOk P t ti) {f o z:Nat} {g:Bool} (hf:ti.flds[f]?=some (o,z,g)) :
  ∃ fs fd,P.underlying t=some (.struct fs)/\fs[f]?=some fd/\fd.offset=o/\(∀ w,(Go.sizeOf fd.type).run P w=.ok z w)/\(∀ w,(isAgg fd.type).run P w=.ok g w):=by
 obtain ⟨d,hd,hk,_,_,hfl,hok,_⟩:=h.und'
 rw [<-hfl] at hf
 cases d with
 | struct fs=>
  simp only [fldsB,List.getElem?_map,Option.map_eq_some_iff] at hf
  obtain ⟨fd,hfd,he⟩:=hf
  simp only [Prod.mk.injEq] at he
  have hfd':fs[f]?=some fd:=by simpa using hfd
  simp only [fldsOk,List.all_eq_true,Bool.and_eq_true] at hok
  obtain ⟨h1,h2⟩:=hok fd (List.mem_of_getElem? hfd)
  obtain ⟨i,hi⟩:=Option.isSome_iff_exists.1 h1
  obtain ⟨u,hu⟩:=Option.isSome_iff_exists.1 h2
  refine ⟨fs,fd,hd,hfd',he.1,fun w=>?_,fun w=>?_⟩
  ·simp [Go.sizeOf,typeInfo,hi]; simpa [hi] using he.2.1
  ·unfold isAgg
   rw [Sem.run_bind,run_und hu]
   have:=he.2.2; rw [hu] at this; simp only [Option.map_some,Option.getD_some] at this; rw [<-this]
   cases u<;>rfl
 | _=>simp [fldsB] at hf
theorem fold_putAt:∀ (xs:List Value) (cs:Array Value) (o k:Nat),
  ((xs.zipIdx k).foldl (fun cs (p:Value × Nat)=>cs.setIfInBounds (o+p.2) p.1) cs).toList=putAt cs.toList (o+k) xs
 | [],cs,o,k=>rfl
 | x::xs,cs,o,k=>by
  simp only [List.zipIdx_cons,List.foldl_cons,putAt]
  rw [fold_putAt xs]
  simp [Nat.add_assoc]
theorem places_run {t:TypeId} {ti:TI} {fs:Array Field} (hd:P.underlying t=some (.struct fs)) (hq:TyOk P t ti) :
  ∃ places:Array (Nat × Nat),(∀ w,((fs.mapM fun f=>do pure (f.offset,<-Go.sizeOf f.type):Sem (Array (Nat × Nat)))).run P w=.ok places w)/\(∀ (f o z:Nat) (g:Bool),ti.flds[f]?=some (o,z,g)->places[f]?=some (o,z)):=by
 obtain ⟨d,hd',hk,_,_,hfl,hok,_⟩:=hq.und'
 rw [hd] at hd'; injection hd' with hd'; subst hd'
 have key:∀ (w:World) (l:List Field),(∀ f ∈ l,(P.info? f.type).isSome=true) ->
   ((l.mapM fun f=>do pure (f.offset,<-Go.sizeOf f.type):Sem (List (Nat × Nat)))).run P w=.ok (l.map fun f=>(f.offset,((P.info? f.type).map (·.size)).getD 0)) w:=by
  intro w l
  induction l with
  | nil=>intro _; rfl
  | cons f l ih=>
   intro h
   obtain ⟨i,hi⟩:=Option.isSome_iff_exists.1 (h f (List.mem_cons_self ..))
   rw [List.mapM_cons]
   simp only [Sem.run_bind,Sem.run_pure,Go.sizeOf,typeInfo,run_program,Result.andThen_ok,hi,Option.map_some,Option.getD_some,List.map_cons]
   have:=ih (fun g hg=>h g (List.mem_cons_of_mem _ hg))
   simp only [Go.sizeOf,typeInfo,Sem.run_bind] at this
   rw [this]
   rfl
 have hall:∀ f ∈ fs.toList,(P.info? f.type).isSome=true:=by
  intro f hf
  simp only [fldsOk,List.all_eq_true,Bool.and_eq_true] at hok
  exact (hok f hf).1
 refine ⟨(fs.toList.map fun f=>(f.offset,((P.info? f.type).map (·.size)).getD 0)).toArray,?_,?_⟩
 ·intro w
  rw [Array.mapM_eq_mapM_toList,Sem.run_map,key _ _ hall]
  rfl
 ·intro f o z g hf
  rw [<-hfl] at hf
  simp only [fldsB,List.getElem?_map,Option.map_eq_some_iff] at hf
  obtain ⟨fd,hfd,he⟩:=hf
  simp only [Prod.mk.injEq] at he
  simp only [List.getElem?_toArray,List.getElem?_map,hfd,Option.map_some,he.1,he.2.1]
theorem add_add (b:Addr) (m k:Nat):(b.add m).add k=b.add (m+k):=by
 unfold Addr.add
 by_cases h1:m=0
 ·simp [h1]
 ·by_cases h2:k=0
  ·simp [h2]
  ·simp [h1,h2,show m+k ≠ 0 by omega,Nat.add_assoc]
theorem add_own (b o d:Nat):(⟨b,o,none⟩:Addr).add d=⟨b,o+d,none⟩:=by
 unfold Addr.add; split
 ·rename_i h; simp [h]
 ·rfl
theorem fieldAt_run {st:TypeId} {ti:TI} (hq:TyOk P st ti) {f o z:Nat} {g:Bool} (hf:ti.flds[f]?=some (o,z,g)) (hz:z ≠ 0) (b:Addr) (w:World) :
  (Instr.fieldAt st (.pointer (some b)) f).run P w=.ok (.pointer (some (b.add o))) w:=by
 obtain ⟨fs,fd,hd,hfd,ho,hsz,_⟩:=fld_get hq hf
 unfold Instr.fieldAt
 rw [Sem.run_bind,run_und hd]
 simp only [Result.andThen_ok,hfd,Instr.sureAddr,Sem.run_bind,Sem.run_pure,fieldPlace,hsz]
 rw [if_neg hz,ho]
 rfl
theorem indexAt_run {t:TypeId} {ti te:TI} (hq:TyOk P t ti) (hk:ti.kind=3) (he:TyOk P ti.elem te) (b:Addr) (l c:Nat) (k:IntKind) (i:Int) (h:0<=i/\i < l) (w:World) :
  (Instr.indexAt t (.slice (some b) l c) (.int k i)).run P w=.ok (.pointer (some (b.add (i.toNat*te.sz)))) w:=by
 obtain ⟨d,hd,hkd,hel,_⟩:=hq.und'
 rw [hk] at hkd
 cases d<;>simp [kindB] at hkd
 rename_i e
 simp only [elemB] at hel
 subst hel
 unfold Instr.indexAt
 simp [asIntOf,run_und hd,h,run_size he]
theorem len_run {t:TypeId} {ti:TI} (hq:TyOk P t ti) (hk:ti.kind=3) (ty:TypeId) (b:Option Addr) (l c:Nat) (w:World):(Builtin.len_ #[t] ty #[.slice b l c]).run P w=.ok (.int .i64 l) w:=by
 obtain ⟨d,hd,hkd,hel,_⟩:=hq.und'
 rw [hk] at hkd
 cases d<;>simp [kindB] at hkd
 unfold Builtin.len_
 simp [run_und hd,goInt]
theorem lens_run {t:TypeId} {ti:TI} (hq:TyOk P t ti) (hk:ti.kind=4) (ty:TypeId) (b:ByteArray) (w:World):(Builtin.len_ #[t] ty #[.string b]).run P w=.ok (.int .i64 b.size) w:=by
 obtain ⟨d,hd,hkd,hel,_⟩:=hq.und'
 rw [hk] at hkd
 cases d<;>simp [kindB] at hkd
 unfold Builtin.len_
 simp [run_und hd,goInt]
theorem cap_run {t:TypeId} {ti:TI} (hq:TyOk P t ti) (hk:ti.kind=3) (ty:TypeId) (b:Option Addr) (l c:Nat) (w:World):(Builtin.cap_ #[t] ty #[.slice b l c]).run P w=.ok (.int .i64 c) w:=by
 obtain ⟨d,hd,hkd,hel,_⟩:=hq.und'
 rw [hk] at hkd
 cases d<;>simp [kindB] at hkd
 unfold Builtin.cap_
 simp [run_und hd,goInt]
theorem callLen {o:Oper} {x:Operand} {t:TypeId} {y:Value} (ho:o.op=.call { callee:=.builtin .len,args:=#[x],argTypes:=#[t] }) (h:∀ w,(Builtin.len_ #[t] o.type #[a.eval x]).run P w=.ok y w) (w:World) :
  (execOp a.eval o).run P w=.ok (.value y) w:=by
 unfold execOp
 rw [ho]
 simp only [resolve,Sem.run_bind,Sem.run_pure,Result.andThen_ok,invoke,builtin]
 simp [h]
theorem callCap {o:Oper} {x:Operand} {t:TypeId} {y:Value} (ho:o.op=.call { callee:=.builtin .cap,args:=#[x],argTypes:=#[t] }) (h:∀ w,(Builtin.cap_ #[t] o.type #[a.eval x]).run P w=.ok y w) (w:World) :
  (execOp a.eval o).run P w=.ok (.value y) w:=by
 unfold execOp
 rw [ho]
 simp only [resolve,Sem.run_bind,Sem.run_pure,Result.andThen_ok,invoke,builtin]
 simp [h]
end
end Go.Proofs.YtkipmmiiackdaaaGreat.Sx
