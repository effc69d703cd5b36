/- Part 38 of what the statement needs: an executor of Go texts, arithmetic, and contracts of the functions that are called. -/
import Derived.Test.YtkipmmiiackdaaaGreatCa11
import Derived.Test.YtkipmmiiackdaaaGreatCa36
import Derived.Test.YtkipmmiiackdaaaGreatCa37
set_option linter.unusedSimpArgs false
set_option linter.unusedVariables false
set_option maxHeartbeats 16000000
set_option maxRecDepth 100000
namespace Go.Proofs.YtkipmmiiackdaaaGreat.Sx
open Env (std)
/-- What both Check and both Same answer. -/
structure RcF (a b:List Pt) (c:Int) (s:Bool):Prop where
 c1:Con Tryz.prog 19 [.ro cP a] (.v (.int .i64 c))
 c2:Con Tryz.prog 20 [.ro cP a] (.v (.int .i64 c))
 s1:Con Tryz.prog 22 [.ro cP a,.ro cP b] (.v (.bool s))
 s2:Con Tryz.prog 21 [.ro cP a,.ro cP b] (.v (.bool s))
theorem rcF_ex {a b:List Pt} (hg:bigG a=false) (hl:a.length<=maxLen):∃ c s,RcF a b c s:=by
 have ia:=bigC_is hg
 have h70:a.length<=70:=by
  unfold bigG at hg
  rw [Bool.or_eq_false_iff,decide_eq_false_iff_not] at hg
  have:=hg.1
  omega
 exact ⟨_,_,chk_a ia hl (by decide) (by decide),ychk_a ia hl (by decide) (by decide),same_q a b (by omega),ysame_q a b (by omega)⟩
structure RcG (a rs:List Pt):Prop where
 c1:Con Tryz.prog 17 [.ro cP a] (.tup [.own 33 cP rs,.v (.int .i64 0)])
 c2:Con Tryz.prog 18 [.ro cP a] (.tup [.own 33 cP rs,.v (.int .i64 0)])
 s:Con Tryz.prog 21 [.ro cP rs,.ro cP rs] (.v (.bool true))
 tk:std.tk Pt rs (std.len Pt rs)=rs
structure RcB (a:List Pt) (e:Int):Prop where
 c1:Con Tryz.prog 17 [.ro cP a] (.v (.tuple #[.slice none 0 0,.int .i64 e]))
 c2:Con Tryz.prog 18 [.ro cP a] (.v (.tuple #[.slice none 0 0,.int .i64 e]))
theorem canQ_len (A:List Pq):(canQ A).length<=A.length:=by
 unfold canQ
 rw [rotQ_len,turnQ_len]
 exact simpQ_len A
theorem rc_ex {a:List Pt} (hg:bigG a=false):(∃ rs,RcG a rs)\/(∃ e,RcB a e):=by
 have ia:=bigC_is hg
 have h70:a.length<=70:=by
  unfold bigG at hg
  rw [Bool.or_eq_false_iff,decide_eq_false_iff_not] at hg
  have:=hg.1
  omega
 by_cases h0:canE (canL a) (a.map Pt.q)=0
 ·have h1:1<=a.length:=by
   cases a with
   | nil=>exact absurd h0 (by decide)
   | cons x l=>simp
  have hl:=canQ_len (a.map Pt.q)
  rw [List.length_map] at hl
  have hs:=ysame_q ((canQ (a.map Pt.q)).map crP) ((canQ (a.map Pt.q)).map crP) (by rw [List.length_map]; omega)
  rw [eqL_iff.2 rfl] at hs
  exact .inl ⟨_,canon_ok ia h1 (by omega) (by decide) (by decide) h0,ycanon_ok ia (by omega) (by decide) (by decide) h0,hs,by rw [s_tk,s_len]; exact List.take_of_length_le (by omega)⟩
 ·refine .inr ⟨_,?_,ycanon_bad ia (by omega) (by decide) (by decide) h0⟩
  by_cases h1:1<=a.length
  ·exact canon_bad ia h1 (by omega) (by decide) (by decide) h0
  ·have h9:a=[]:=by cases a with
    | nil=>rfl
    | cons x l=>simp at h1
   have h8:canE (canL a) (a.map Pt.q)=12:=by rw [h9]; rfl
   rw [h8]
   exact canon_nil h9
theorem ynil_same:Con Tryz.prog 21 [.ro cP ([]:List Pt),.ro cP ([]:List Pt)] (.v (.bool true)):=by
 have h:=ysame_q [] [] (by decide)
 rw [eqL_iff.2 rfl] at h
 exact h
theorem ringChecks_con (a:List Pt) (ha:a.length<=maxLen) (b:List Pt) (hb:b.length<=maxLen):Con Tryz.prog 3 [.ro cP a,.ro cP b] (.v (.bool true)):=by
 have kg1:=great24_con a ha
 have kg2:=great24_con b hb
 have tka:std.tk Pt a (std.len Pt a)=a:=by rw [s_tk,s_len]; exact List.take_of_length_le (by omega)
 have tkb:std.tk Pt b (std.len Pt b)=b:=by rw [s_tk,s_len]; exact List.take_of_length_le (by omega)
 have kn:=ynil_same
 obtain ⟨ga,ega⟩:∃ r,r=bigG a:=⟨_,rfl⟩
 obtain ⟨gb,egb⟩:∃ r,r=bigG b:=⟨_,rfl⟩
 rw [<-ega] at kg1
 rw [<-egb] at kg2
 have hall:¬ ga=true->∃ c s,RcF a b c s:=fun c1=>rcF_ex (by rw [<-ega]; simpa using c1) ha
 have hcan:¬ ga=true->(∃ rs,RcG a rs)\/(∃ e,RcB a e):=fun c1=>rc_ex (by rw [<-ega]; simpa using c1)
 clear ega egb ha hb
 refine Con.of ttOk mixed Tryz.func3 {} .nil 0 (by kernel_rfl) (fun P' E hP hE=>?_)
 cbv
 refine CallTo.w hP hE kg1 ⟨(by subst hE; exact Sm.of (c:=cP) tka),trivial⟩ ?_
 cbv
 refine fork.mk ?_ ?_
 ·intro g
  cbv
  refine awake10_c hP hE ?_
  cbv
 intro g
 have c1:¬ ga=true:=by simpa using g
 clear g
 have hall:=hall c1
 have hcan:=hcan c1
 cbv
 refine CallTo.w hP hE kg2 ⟨(by subst hE; exact Sm.of (c:=cP) tkb),trivial⟩ ?_
 cbv
 refine fork.mk ?_ ?_
 ·intro g
  cbv
  refine awake10_c hP hE ?_
  cbv
 intro g
 clear g
 cbv
 refine Exists.elim hall ?_
 intro c h
 refine Exists.elim h ?_
 intro s h
 have kc1:=h.c1
 have kc2:=h.c2
 have ks1:=h.s1
 have ks2:=h.s2
 clear h hall
 refine Or.elim hcan ?_ ?_
 ·intro h
  refine Exists.elim h ?_
  intro rs h
  have q1:=h.c1
  have q2:=h.c2
  have qs:=h.s
  have tkr:=h.tk
  clear h hcan
  refine CallTo.con hP hE q1 ⟨(by subst hE; exact Sm.of (c:=cP) tka),trivial⟩ ?_
  cbv
  refine CallTo.con hP hE q2 ⟨(by subst hE; exact Sm.of (c:=cP) tka),trivial⟩ ?_
  cbv
  refine CallTo.w hP hE kc1 ⟨(by subst hE; exact Sm.of (c:=cP) tka),trivial⟩ ?_
  cbv
  refine CallTo.w hP hE kc2 ⟨(by subst hE; exact Sm.of (c:=cP) tka),trivial⟩ ?_
  cbv
  refine forkYes (by subst hE; exact decide_eq_true rfl) ?_
  cbv
  refine CallTo.w hP hE qs ⟨(by subst hE; exact Sm.of (c:=cP) tkr),(by subst hE; exact Sm.of (c:=cP) tkr),trivial⟩ ?_
  cbv
  refine forkYes (by subst hE; rfl) ?_
  cbv
  refine forkYes (by subst hE; rfl) ?_
  cbv
  refine CallTo.w hP hE ks1 ⟨(by subst hE; exact Sm.of (c:=cP) tka),(by subst hE; exact Sm.of (c:=cP) tkb),trivial⟩ ?_
  cbv
  refine CallTo.w hP hE ks2 ⟨(by subst hE; exact Sm.of (c:=cP) tka),(by subst hE; exact Sm.of (c:=cP) tkb),trivial⟩ ?_
  cbv
  refine forkYes (by subst hE; cases s<;>rfl) ?_
  cbv
  refine awake10_c hP hE ?_
  cbv
 ·intro h
  refine Exists.elim h ?_
  intro e h
  have q1:=h.c1
  have q2:=h.c2
  clear h hcan
  refine CallTo.w hP hE q1 ⟨(by subst hE; exact Sm.of (c:=cP) tka),trivial⟩ ?_
  cbv
  refine CallTo.w hP hE q2 ⟨(by subst hE; exact Sm.of (c:=cP) tka),trivial⟩ ?_
  cbv
  refine CallTo.w hP hE kc1 ⟨(by subst hE; exact Sm.of (c:=cP) tka),trivial⟩ ?_
  cbv
  refine CallTo.w hP hE kc2 ⟨(by subst hE; exact Sm.of (c:=cP) tka),trivial⟩ ?_
  cbv
  refine forkYes (by subst hE; exact decide_eq_true rfl) ?_
  cbv
  refine CallTo.w hP hE kn ⟨⟨rfl,rfl,cP_ok⟩,⟨rfl,rfl,cP_ok⟩,trivial⟩ ?_
  cbv
  refine forkYes (by subst hE; rfl) ?_
  cbv
  refine forkYes (by subst hE; exact decide_eq_true rfl) ?_
  cbv
  refine CallTo.w hP hE ks1 ⟨(by subst hE; exact Sm.of (c:=cP) tka),(by subst hE; exact Sm.of (c:=cP) tkb),trivial⟩ ?_
  cbv
  refine CallTo.w hP hE ks2 ⟨(by subst hE; exact Sm.of (c:=cP) tka),(by subst hE; exact Sm.of (c:=cP) tkb),trivial⟩ ?_
  cbv
  refine forkYes (by subst hE; cases s<;>rfl) ?_
  cbv
  refine awake10_c hP hE ?_
  cbv
end Go.Proofs.YtkipmmiiackdaaaGreat.Sx
namespace Go.Proofs.YtkipmmiiackdaaaGreat.ringChecks
open Go.ChangeShapes Go.WideShapes Go.ChangeAt Go.RowKit Go.Proofs.YtkipmmiiackdaaaGreat.Sx
set_option maxRecDepth 100000 in
theorem lifted (os:Os) (started:os.Started) (H:Type) (enc:TypeId × Value->H) :
  ReturnsInHanded {} Tryz.checked os 3 .any (Rows.ringChecksSpec.pre6 enc Tryz.prog Tryz.f3 Rows.ringChecksRow.domain false) (Rows.ringChecksSpec.post enc Tryz.prog Tryz.f3 false true false false):=by
 refine returnsInHanded_of_change_sized (C:=Tryz.checked) own' started (by kernel_rfl) Tryz.func3
  (ChangeSpec.witness6 (enc:=enc) (C:=Tryz.checked) false ⟨#[],#[.slice none 0 0,.slice none 0 0],[]⟩ 8 (by kernel_rfl) (by kernel_rfl) (by kernel_rfl) (by kernel_rfl)) ?_
 intro W base args ds gs before hval0 hW hcnd hsz0 _
 have hval:∀ (j:Nat) t v,Tryz.f3.params[j]?=some t->args[j]?=some v->Value.okWide Tryz.prog W .any base t v:=hval0
 have hW':=hW
 obtain ⟨p,q,hA0,hV,rfl,hfz,hnd⟩:=hW
 have hA:DataW.TrodAll enc Tryz.prog W 0 (fun _=>true) true Tryz.f3.params.toList args.toList ds p:=hA0
 rw [Tryz.params3] at hA hval
 obtain ⟨v0,vs0,d0,ds0,p0,q0,hargs,rfl,rfl,h0,r0⟩:=trodAll_cons hA
 obtain ⟨v1,vs1,d1,ds1,p1,q1,rfl,rfl,rfl,h1,r1⟩:=trodAll_cons r0
 obtain ⟨rfl,rfl,rfl⟩:=trodAll_nil r1
 obtain rfl:args=#[v0,v1]:=by cases args; simp_all
 obtain ⟨rfl,rfl⟩:=trodVars_none hV
 obtain ⟨a0,o0,k0,rfl,le0,ml0,rd0⟩:=open_L (hval 0 22 v0 rfl rfl) h0
 have lt0:=trod_lt' h0
 obtain ⟨a1,o1,k1,rfl,le1,ml1,rd1⟩:=open_L (hval 1 22 v1 rfl rfl) h1
 have lt1:=trod_lt' h1
 clear hA0 hval0 hsz0
 obtain ⟨_,hc⟩:=(ringChecks_con a0 (Nat.le_trans le0 ml0) a1 (Nat.le_trans le1 ml1)).out W #[.slice o0 a0.length k0,.slice o1 a1.length k1] (by simp only [T.ats,T.at]; exact ⟨_,_,rfl,⟨cP_ok,_,_,rfl,le0,rd0,fun _ _=>Nat.zero_le _⟩,⟨_,_,rfl,⟨cP_ok,_,_,rfl,le1,rd1,fun _ _=>Nat.zero_le _⟩,rfl⟩⟩)
 refine hc.mono fun e W' he=>?_
 obtain ⟨v,rfl,hv,bel⟩:=he
 simp only [T.at] at hv
 subst hv
 exact ⟨_,rfl,_,_,_,[],_,[],hW',trodAll_mk1 (shut_bool Tryz.underlying4 _),(trodAll_cons_mk (Below.trod laidOut' (by kernel_rfl) (of_decide_eq_true (by kernel_rfl)) h0 bel lt0) (trodAll_cons_mk (Below.trod laidOut' (by kernel_rfl) (of_decide_eq_true (by kernel_rfl)) h1 bel lt1) trodAll_mk0)),rfl,bel.frame _,fun h=>by cases h⟩
end Go.Proofs.YtkipmmiiackdaaaGreat.ringChecks
