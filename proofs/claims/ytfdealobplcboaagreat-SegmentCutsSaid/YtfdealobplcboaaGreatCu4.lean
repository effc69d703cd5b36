/- Part 4 of what the statement needs: an executor of Go texts, arithmetic, and contracts of the functions that are called. -/
import Derived.Test.YtfdealobplcboaaGreatCu3
set_option linter.unusedVariables false
set_option linter.unusedSimpArgs false
namespace Go.Proofs.YtfdealobplcboaaGreat.Sx
open Go.RowKit Go.Proofs.YtfdealobplcboaaGreatW.PrintLast Go.Proofs.YtfdealobplcboaaGreatW.PrintWords
section
variable {P : Program} {ops : Array Oper} {Q : Exit -> Act -> World -> Prop} {md : Region.Mode} {S : World -> Prop} {ds : List Nat} {r : Option Nat}
theorem wpi_of {o : Oper} {a : Act} {w w' : World} {v : Value} {K : Act -> World -> Prop} (h : (execOp a.eval o).run P w = .ok (.value v) w') (hk : K (a.put o.dst v) w') (hd : ∀ c, o.op ≠ .defer c := by intro c e; cases e) : o.wpIn (fen r) 0 P a w K Q := by
 refine ⟨fun f _ => trivial, ?_⟩
 rw [Oper.semAt_eq _ _ _ hd, h]
 exact hk
theorem wpi_skip {o : Oper} {a : Act} {w w' : World} {K : Act -> World -> Prop} (h : (execOp a.eval o).run P w = .ok .skip w') (hk : K (a.put o.dst undef) w') (hd : ∀ c, o.op ≠ .defer c := by intro c e; cases e) : o.wpIn (fen r) 0 P a w K Q := by
 refine ⟨fun f _ => trivial, ?_⟩
 rw [Oper.semAt_eq _ _ _ hd, h]
 exact hk
theorem yieldsIfIn {i : Nat} {o : Oper} {v : Value} {a : Act} (hi : ops[i]? = some o) (hnd : ∀ c, o.op ≠ .defer c) (hy : YieldsIf P ops S o v a)
  {K : Act -> World -> Prop} {w : World} (hS : S w) (h : K (a.put o.dst v) w) : wpOpIn (fen r) 0 P ops Q i K a w := by
 unfold Go.wpOpIn
 simp only [hi]
 rcases hy with ⟨hw, hv⟩ | ⟨hw, rfl⟩
 ·simp only [hw, if_true]; exact wpi_of (hv w hS) h hnd
 ·simp only [hw, Bool.false_eq_true, if_false]; exact ⟨fun f _ => trivial, h⟩
theorem wpOpIn_putIf {j : Nat} {oi oj : Oper} {v : Value} (hj : ops[j]? = some oj) (hnd : ∀ c, oj.op ≠ .defer c) (hap : oi.apart ops oj = true)
  (hsi : ∀ cs b, oi.op ≠ .select cs b) (hsj : ∀ cs b, oj.op ≠ .select cs b)
  (hQ : ∀ c a w, Q (.panic c) (a.put oi.dst v) w -> Q (.panic c) a w) {K : Act -> World -> Prop} {a : Act} {w : World}
  (hy : YieldsIf P ops S oi v a) (h : wpOpIn (fen r) 0 P ops Q j K (a.put oi.dst v) w) :
  wpOpIn (fen r) 0 P ops Q j (fun a' w' => YieldsIf P ops S oi v a' /\ K (a'.put oi.dst v) w') a w := by
 obtain ⟨h1, h2, h3⟩ := Oper.apart_spec hap
 have keep : ∀ (a : Act), YieldsIf P ops S oi v a -> ∀ u, YieldsIf P ops S oi v (a.put oj.dst u) := fun a hy u =>
  hy.of_same (execOp_put oi hsi a oj.dst u h3) (wanted_put oi a oj.dst u h3)
 unfold wpOpIn at *
 simp only [hj] at *
 rw [wanted_put oj a oi.dst v h1] at h
 split
 ·rename_i hw
  simp only [hw, if_true] at h
  unfold Oper.wpIn at *
  refine ⟨fun f _ => trivial, ?_⟩
  have h := h.2
  rw [Oper.semAt_eq _ _ _ hnd, execOp_put oj hsj a oi.dst v h1] at h
  rw [Oper.semAt_eq _ _ _ hnd]
  generalize (execOp a.eval oj).run P w = r at *
  cases r with
  | ok x w' =>
   cases x <;> simp only [Oper.uponIn] at h ⊢
   case value u => exact ⟨keep a hy u, by rw [<- Act.put_comm a v u h2]; exact h⟩
   case skip => exact ⟨keep a hy _, by rw [<- Act.put_comm a v undef h2]; exact h⟩
   case defer d =>
    have hyd : YieldsIf P ops S oi v { a with defers := d :: a.defers } := hy.of_same rfl rfl
    refine ⟨keep _ hyd _, ?_⟩
    rw [<- Act.put_comm _ v undef h2, <- Act.put_defers]
    exact h
   case enter f args =>
    refine ⟨h.1, CallsIn.mono h.2 fun e w'' he => ?_⟩
    cases e with
    | returned u => exact ⟨keep a hy u, by rw [<- Act.put_comm a v u h2]; exact he⟩
    | panicked c => exact hQ _ _ _ he
    | outgrown => exact he
   case row row args => exact ⟨h.1, RowsIn.mono h.2 fun u w'' he => ⟨keep a hy u, by rw [<- Act.put_comm a v u h2]; exact he⟩⟩
   case round l f tmps assign body =>
    refine ⟨h.1, RoundIn.mono h.2 fun e w'' he => ?_⟩
    cases e with
    | returned u => exact ⟨keep a hy u, by rw [<- Act.put_comm a v u h2]; exact he⟩
    | panicked c => exact hQ _ _ _ he
    | outgrown => exact he
  | halt x w' =>
   cases x <;> simp only [Oper.uponIn] at h ⊢
   case panic u => exact hQ _ _ _ h
 ·rename_i hw
  simp only [hw] at h
  exact ⟨fun f _ => trivial, keep a hy _, by rw [<- Act.put_comm a v undef h2]; exact h.2⟩
/-- Whatever order is picked from here on, and S holds behind every operation that is carried out, those of ds apart. -/
def wpAnyLastIn (P : Program) (r : Option Nat) (md : Region.Mode) (ops : Array Oper) (Q : Exit -> Act -> World -> Prop) (S : World -> Prop) (ds : List Nat) : Nat -> Array Bool -> Act -> World -> Prop
 | 0, listed, a, w => Region.ready md ops listed = [] /\ Q .normal a w
 | fuel + 1, listed, a, w =>
  (Region.ready md ops listed = [] -> Q .normal a w) /\
  ∀ i ∈ Region.ready md ops listed, wpOpIn (fen r) 0 P ops Q i (fun a' w' => (i ∉ ds -> S w -> S w') /\ wpAnyLastIn P r md ops Q S ds fuel (listed.setIfInBounds i true) a' w') a w
theorem wpAnyIn_of_last : ∀ (fuel : Nat) (listed : Array Bool) (a : Act) (w : World), wpAnyLastIn P r md ops Q S ds fuel listed a w -> wpAnyIn (fen r) 0 P md ops Q fuel listed a w
 | 0, _, _, _, h => h
 | fuel + 1, _, _, _, h => ⟨h.1, fun i hi => wpOpIn_mono (fun a' w' h' => wpAnyIn_of_last fuel _ a' w' h'.2) (h.2 i hi)⟩
theorem wpAnyLastIn_first {i : Nat} {oi : Oper} {v : Value} (hnd : ∀ (j : Nat) (o : Oper) c, ops[j]? = some o -> o.op ≠ .defer c) (hi : ops[i]? = some oi) (hsel : ∀ (j : Nat) (o : Oper) cs b, ops[j]? = some o -> o.op ≠ .select cs b)
  (hQ : ∀ c a w, Q (.panic c) (a.put oi.dst v) w -> Q (.panic c) a w) (n : Nat) :
  ∀ (fuel : Nat) (listed : Array Bool) (a : Act) (w : World),
   (∀ j oj, ops[j]? = some oj -> j ≠ i -> listed.getD j true = false -> (∀ e ∈ oj.after, Region.binds md e = true -> e.on ≠ i) -> oi.apart ops oj = true) ->
   ListedClosed md ops listed -> (∀ d ∈ ds, listed.getD d true = false -> Region.reachB md ops i n d = true) ->
   i ∈ Region.ready md ops listed -> YieldsIf P ops S oi v a -> S w ->
   wpAnyLastIn P r md ops Q S ds fuel (listed.setIfInBounds i true) (a.put oi.dst v) w -> wpAnyLastIn P r md ops Q S ds (fuel + 1) listed a w := by
 intro fuel
 induction fuel with
 | zero =>
  intro listed a w _ _ _ hr hy hS H
  refine ⟨fun h => (by rw [h] at hr; cases hr), fun j hj => ?_⟩
  by_cases hji : j = i
  ·subst hji; exact yieldsIfIn hi (fun c => hnd _ _ c hi) hy hS ⟨fun _ h => h, H⟩
  ·have := ready_mono hj hji
   rw [H.1] at this
   cases this
 | succ fuel ih =>
  intro listed a w hfree hc hd hr hy hS H
  refine ⟨fun h => (by rw [h] at hr; cases hr), fun j hj => ?_⟩
  by_cases hji : j = i
  ·subst hji; exact yieldsIfIn hi (fun c => hnd _ _ c hi) hy hS ⟨fun _ h => h, H⟩
  ·have h1 := H.2 j (ready_mono hj hji)
   obtain ⟨hjun, oj, hoj, hall⟩ := mem_ready.1 hj
   have hiun := (mem_ready.1 hr).1
   have hnot : ∀ e ∈ oj.after, Region.binds md e = true -> e.on ≠ i := fun e he hb heq => by
    have h1 := hall e he hb
    rw [heq] at h1
    rcases Nat.lt_or_ge i listed.size with h' | h'
    ·simp [h'] at hiun h1; rw [hiun] at h1; cases h1
    ·simp [Array.getElem?_eq_none h'] at h1
   have hjd : j ∉ ds := fun hm => Region.reach_not_ready hc (hd j hm hjun) hiun hj
   have h2 := wpOpIn_putIf hoj (fun c => hnd _ _ c hoj) (hfree j oj hoj hji hjun hnot) (fun cs b => hsel i oi cs b hi) (fun cs b => hsel j oj cs b hoj) hQ hy h1
   have hfree' : ∀ k ok, ops[k]? = some ok -> k ≠ i -> (listed.setIfInBounds j true).getD k true = false ->
     (∀ e ∈ ok.after, Region.binds md e = true -> e.on ≠ i) -> oi.apart ops ok = true := fun k ok hk hki hun hno => by
    refine hfree k ok hk hki ?_ hno
    by_cases hjk : j = k
    ·subst hjk; exact hjun
    ·rw [getD_set_ne true hjk] at hun; exact hun
   have hd' : ∀ d ∈ ds, (listed.setIfInBounds j true).getD d true = false -> Region.reachB md ops i n d = true := fun d hm hun => by
    refine hd d hm ?_
    by_cases hjk : j = d
    ·subst hjk; exact hjun
    ·rw [getD_set_ne true hjk] at hun; exact hun
   refine wpOpIn_mono (fun a' w' h3 => ⟨h3.2.1, ih (listed.setIfInBounds j true) a' w' hfree' (hc.set hj) hd' (ready_mono hr (Ne.symm hji)) h3.1 (h3.2.1 hjd hS) ?_⟩) h2
   rw [Array.setIfInBounds_comm _ _ hji]
   exact h3.2.2
theorem wpAnyLastIn_any {i : Nat} {oi : Oper} {v : Value} (hnd : ∀ (j : Nat) (o : Oper) c, ops[j]? = some o -> o.op ≠ .defer c) (hi : ops[i]? = some oi) (hsel : ∀ (j : Nat) (o : Oper) cs b, ops[j]? = some o -> o.op ≠ .select cs b)
  (hQ : ∀ c a w, Q (.panic c) (a.put oi.dst v) w -> Q (.panic c) a w) :
  ∀ (fuel : Nat) (listed : Array Bool) (a : Act) (w : World),
   (∀ j oj, ops[j]? = some oj -> j ≠ i -> listed.getD j true = false -> (∀ e ∈ oj.after, Region.binds md e = true -> e.on ≠ i) -> oi.apart ops oj = true) ->
   i ∈ Region.ready md ops listed -> Yields P ops oi v a ->
   wpAnyLastIn P r md ops Q S ds fuel (listed.setIfInBounds i true) (a.put oi.dst v) w -> wpAnyLastIn P r md ops Q S ds (fuel + 1) listed a w := by
 intro fuel
 have T : ∀ {a : Act}, Yields P ops oi v a -> YieldsIf P ops (fun _ => True) oi v a := fun hy => hy.yieldsIf
 induction fuel with
 | zero =>
  intro listed a w _ hr hy H
  refine ⟨fun h => (by rw [h] at hr; cases hr), fun j hj => ?_⟩
  by_cases hji : j = i
  ·subst hji; exact yieldsIfIn hi (fun c => hnd _ _ c hi) (T hy) trivial ⟨fun _ h => h, H⟩
  ·have := ready_mono hj hji
   rw [H.1] at this
   cases this
 | succ fuel ih =>
  intro listed a w hfree hr hy H
  refine ⟨fun h => (by rw [h] at hr; cases hr), fun j hj => ?_⟩
  by_cases hji : j = i
  ·subst hji; exact yieldsIfIn hi (fun c => hnd _ _ c hi) (T hy) trivial ⟨fun _ h => h, H⟩
  ·have h1 := H.2 j (ready_mono hj hji)
   obtain ⟨hjun, oj, hoj, hall⟩ := mem_ready.1 hj
   have hiun := (mem_ready.1 hr).1
   have hnot : ∀ e ∈ oj.after, Region.binds md e = true -> e.on ≠ i := fun e he hb heq => by
    have h1 := hall e he hb
    rw [heq] at h1
    rcases Nat.lt_or_ge i listed.size with h' | h'
    ·simp [h'] at hiun h1; rw [hiun] at h1; cases h1
    ·simp [Array.getElem?_eq_none h'] at h1
   have h2 := wpOpIn_putIf hoj (fun c => hnd _ _ c hoj) (hfree j oj hoj hji hjun hnot) (fun cs b => hsel i oi cs b hi) (fun cs b => hsel j oj cs b hoj) hQ (T hy) h1
   have hfree' : ∀ k ok, ops[k]? = some ok -> k ≠ i -> (listed.setIfInBounds j true).getD k true = false ->
     (∀ e ∈ ok.after, Region.binds md e = true -> e.on ≠ i) -> oi.apart ops ok = true := fun k ok hk hki hun hno => by
    refine hfree k ok hk hki ?_ hno
    by_cases hjk : j = k
    ·subst hjk; exact hjun
    ·rw [getD_set_ne true hjk] at hun; exact hun
   refine wpOpIn_mono (fun a' w' h3 => ⟨h3.2.1, ih (listed.setIfInBounds j true) a' w' hfree' (ready_mono hr (Ne.symm hji)) ?_ ?_⟩) h2
   ·rcases h3.1 with ⟨q1, q2⟩ | q
    ·exact .inl ⟨q1, fun w => q2 w trivial⟩
    ·exact .inr q
   ·rw [Array.setIfInBounds_comm _ _ hji]
    exact h3.2.2
theorem wpAnyLastIn_all {rs : List Nat} {fuel : Nat} {listed : Array Bool} {a : Act} {w : World} (hr : Region.ready md ops listed = rs) (hne : rs ≠ [])
  (h : ∀ i ∈ rs, wpOpIn (fen r) 0 P ops Q i (fun a' w' => (i ∉ ds -> S w -> S w') /\ wpAnyLastIn P r md ops Q S ds fuel (listed.setIfInBounds i true) a' w') a w) : wpAnyLastIn P r md ops Q S ds (fuel + 1) listed a w :=
 ⟨fun h0 => absurd (hr ▸ h0) hne, hr ▸ h⟩
theorem wpAnyLastIn_done {listed : Array Bool} {a : Act} {w : World} (hr : Region.ready md ops listed = []) (h : Q .normal a w) :
  ∀ fuel, wpAnyLastIn P r md ops Q S ds fuel listed a w
 | 0 => ⟨hr, h⟩
 | _ + 1 => ⟨fun _ => h, by rw [hr]; simp⟩
theorem wpIn_region_last {id : Nat} {a : Act} {w : World} (hm : P.follows .mixedOrders = true)
  (h : wpAnyLastIn P r .any ops Q S ds ops.size (Array.replicate ops.size false) a { w with drawn := w.drawn + 1 }) : (Code.region id ops true).wpIn (fen r) 0 P Q a w :=
 wpIn_region_any hm (wpAnyIn_of_last _ _ _ _ h)
theorem noDefer_spec (h : noDefer ops = true) (j : Nat) (o : Oper) (c : Call) (hj : ops[j]? = some o) : o.op ≠ .defer c := by
 intro e
 have := List.all_eq_true.1 h o (by simpa using List.mem_of_getElem? (show ops.toList[j]? = some o by simpa using hj))
 rw [e] at this; cases this
theorem takeIn_ (hnd : noDefer ops = true) {i : Nat} {N : Option Tmp} {oi : Oper} {v : Value} {fuel : Nat} {l : Array Bool} {a : Act} {w : World} (l' : Array Bool) (hi : ops[i]? = some oi) (hN : oi.dst = N) (hc : takeB md ops ds l l' i = true)
  (hQ : ∀ c a w, Q (.panic c) (a.put oi.dst v) w -> Q (.panic c) a w) (hy : YieldsIf P ops S oi v a) (hS : S w) {a' : Act} (ha : a.put N v = a')
  (h : wpAnyLastIn P r md ops Q S ds fuel l' a' w) : wpAnyLastIn P r md ops Q S ds (fuel + 1) l a w := by
 subst ha
 subst hN
 simp only [takeB, Bool.and_eq_true, beq_iff_eq] at hc
 obtain ⟨⟨⟨⟨⟨h1, h2⟩, h3⟩, h4⟩, h5⟩, h6⟩ := hc
 subst h6
 exact wpAnyLastIn_first (fun j o c => noDefer_spec hnd j o c) hi (Region.noSelect_spec h1) hQ ops.size fuel l a w (Region.free_spec hi h2) (Region.closedB_spec h4)
  (fun d hm hun => by have := List.all_eq_true.1 h5 d hm; rw [hun] at this; simpa using this) (by simpa using h3) hy hS h
theorem pureIn_ (hnd : noDefer ops = true) {i : Nat} {N : Option Tmp} {oi : Oper} {v : Value} {fuel : Nat} {l : Array Bool} {a : Act} {w : World} (l' : Array Bool) (hi : ops[i]? = some oi) (hN : oi.dst = N) (hc : anyB md ops l l' i = true)
  (hQ : ∀ c a w, Q (.panic c) (a.put oi.dst v) w -> Q (.panic c) a w) (hy : Yields P ops oi v a) {a' : Act} (ha : a.put N v = a')
  (h : wpAnyLastIn P r md ops Q S ds fuel l' a' w) : wpAnyLastIn P r md ops Q S ds (fuel + 1) l a w := by
 subst ha
 subst hN
 simp only [anyB, Bool.and_eq_true, beq_iff_eq] at hc
 obtain ⟨⟨⟨h1, h2⟩, h3⟩, h6⟩ := hc
 subst h6
 exact wpAnyLastIn_any (fun j o c => noDefer_spec hnd j o c) hi (Region.noSelect_spec h1) hQ fuel l a w (Region.free_spec hi h2) (by simpa using h3) hy h
end
end Go.Proofs.YtfdealobplcboaaGreat.Sx

set_option linter.unusedVariables false
set_option linter.unusedSimpArgs false
namespace Go.Proofs.YtfdealobplcboaaGreat.Sx
open Go.RowKit Go.Proofs.YtfdealobplcboaaGreatW.PrintLast Go.Proofs.YtfdealobplcboaaGreatW.PrintWords
section
variable {P : Program} {β : Nat -> Loc} {n : Nat} {s : St} {a : Act} {ds : List Deferred}
abbrev Hdl := List Blk -> FuncId -> List AV -> (AV -> List Blk -> Prop) -> Prop
/-- A round: what holds of what comes back. -/
structure YieldTo (P : Program) (h : List Blk) (b : Nat) (args : List AV) (K : AV -> List Blk -> Prop) : Prop where
 out : ∀ (r : Option Nat) (w0 : Base) (β : Nat -> Loc) (w : World) (vs : Array Value), RelW w0 β h w -> AV.oks h.length args -> AVRs β args vs.toList ->
  ∃ fn tmps asg body, (Instr.yield (β b).g vs).run P w = .ok (.round (β b).g fn tmps asg body) w /\ RoundIn (fen r) 0 P (β b).g fn tmps asg body w fun e w' => ∃ v x h' β', e = .returned v /\ AVR β' x v /\ x.ok h'.length /\ RelW w0 β' h' w' /\ Ext h.length β h' β' /\ K x h'
def Hdl.ok (P : Program) (C : Hdl) : Prop := (∀ h f args K, C h f args K -> f ≠ yieldId -> CallTo P h f args K) /\ ∀ h b args K, C h yieldId (.yl b :: args) K -> YieldTo P h b args K
theorem calls_fen {r : Option Nat} {n : Nat} {f : FuncId} {args : Array Value} {w : World} {R : Ending -> World -> Prop} (h : Calls P f args w R) : CallsIn (fen r) n P f args w R := by
 cases r with
 | none => exact callsIn_wide.2 h
 | some l => exact (callsIn_wide.2 h : CallsIn Fence.wide n P f args w R)
theorem realA_some {g g' : FuncId} {f c f' c' : List AV} (h : realA g f c = some (g', f', c')) : g ≠ yieldId /\ g = g' /\ f = f' /\ c = c' := by
 unfold realA at h
 split at h
 ·cases h
 ·rename_i hne
  injection h with h; injection h with h1 h; injection h with h2 h3
  exact ⟨by simpa using hne, h1, h2, h3⟩
theorem actA_sound {r : Option Nat} {tt : Tab} (hT : TabOk P tt) {C : Hdl} (hC : C.ok P) {w0 : Base} {w : World} (ht : RelT ds β s.h.length s.t a) (hw : RelW w0 β s.h w) {o : Oper} {n0 : Option Nat} {K : St -> Prop} (h : actA P Env.std tt C n0 o s K)
  {Q : Exit -> Act -> World -> Prop} {K' : Act -> World -> Prop} (hK : ∀ a' w', After ds w0 β s.h (isStoreB o.op || n0.isNone) K a' w' -> K' a' w') : o.wpIn (fen r) 0 P a w K' Q := by
 obtain ⟨dst, op, ty, pos, after, guard⟩ := o
 have hle := hw.below.size
 cases op with
 | load t x =>
  simp only [actA] at h
  split at h
  ·rename_i y hy
   obtain ⟨v, hv, hr, hok⟩ := loadA_sound hT ht hw (lim_loads hy)
   split at h
   ·exact wpi_of (execLoad rfl hv) (hK _ _ (.same ht hw hr hok h))
   ·exact h.elim
  ·exact h.elim
 | alloc t =>
  simp only [actA] at h
  split at h
  ·rename_i hh
   have hq := Tab.at_ok hT hh
   have hrun : (execOp a.eval { dst := dst, op := .alloc t, type := ty, pos := pos, after := after, guard := guard }).run P w = .ok (.value (.pointer (some ⟨w.heap.size, 0, none⟩))) { w with heap := w.heap.push (.cells (tt.at t).zero.toArray t) } := by
    simp only [execOp]
    rw [Sem.run_bind]
    unfold Instr.alloc
    simp only [Sem.run_bind, run_zero hq, Result.andThen_ok, newVar, newRow, run_newObj, Sem.run_pure, zero_cells hq]
   split at h
   ·split at h
    ·rename_i c hcd
     split at h
     ·rename_i hc
      simp only [Bool.and_eq_true, decide_eq_true_eq] at hc
      obtain ⟨hz, hk⟩ := h
      obtain ⟨hcok, _, _⟩ := (Tab.at_ok hT hc.1).cd c hcd
      have hrep : Env.std.rep c.α (Env.std.nof (tt.at t).len) c.z = List.replicate (tt.at t).len c.z := by simp only [Env.std, Int.toNat_natCast]
      refine wpi_of hrun (hK _ _ (.new ht (l := ⟨w.heap.size, some ⟨w.heap.size, 0, none⟩, (tt.at t).len, c.sz, (tt.at t).len⟩) (hw.newRow hcok rfl (by rw [hrep]; simp) ?_ (below_push (Nat.le_refl _))) ?_ ?_ hk))
      ·refine ⟨by rw [hrep, flat_length hcok]; simp, .inr ⟨w.heap.size, _, _, rfl, Nat.le_refl _, heap_push_at, Nat.le_refl _, ?_, ?_, ?_⟩⟩
       ·simp only [maxLen]; omega
       ·rw [List.size_toArray, hz, flat_length hcok]; simp
       ·rw [hrep, <- hz, List.toList_toArray, List.take_of_length_le]
        rw [hz, flat_length hcok]; simp
      ·simp only [AVR, grow_at]; exact ⟨_, rfl, trivial, rfl⟩
      ·simp only [AV.ok]; omega
     ·exact h.elim
    ·refine wpi_of hrun (hK _ _ (.new ht (l := ⟨w.heap.size, none, 0, 0, 0⟩) (hw.new (cs := (tt.at t).zero.map .v) (by simpa using AVRs.vs _) (oks_vs _) _ rfl) ?_ ?_ h))
     ·simp only [AVR, grow_at]
     ·simp only [AV.ok]; omega
   ·refine wpi_of hrun (hK _ _ (.new ht (l := ⟨w.heap.size, none, 0, 0, 0⟩) (hw.new (cs := (tt.at t).zero.map .v) (by simpa using AVRs.vs _) (oks_vs _) _ rfl) ?_ ?_ h))
    ·simp only [AVR, grow_at]
    ·simp only [AV.ok]; omega
  ·exact h.elim
 | box t x =>
  simp only [actA] at h
  split at h
  ·exact h.elim
  ·exact h.elim
  ·rename_i hne1 hne2
   obtain ⟨hx, hok⟩ := ev_rel ht x
   have hrun : (execOp a.eval { dst := dst, op := .box t x, type := ty, pos := pos, after := after, guard := guard }).run P w = .ok (.value (.pointer (some ⟨w.heap.size, 0, none⟩))) { w with heap := w.heap.push (.cells (a.eval x).cells t) } := by
    simp only [execOp]
    rw [Sem.run_bind]
    unfold Instr.box
    simp only [Sem.run_bind, Result.andThen_ok, newVar, newRow, run_newObj, Sem.run_pure]
   refine wpi_of hrun (hK _ _ (.new ht (l := ⟨w.heap.size, none, 0, 0, 0⟩) (hw.new (cells_rel hx (fun e => hne1 e) (fun l e => hne2 l e)) (cells_ok hok) _ rfl) ?_ ?_ h))
   ·simp only [AVR, grow_at]
   ·simp only [AV.ok]; omega
 | store t x y =>
  simp only [actA] at h
  split at h
  ·rename_i b d he
   split at h
   ·rename_i cs ty' hb
    split at h
    ·rename_i hc
     simp only [Bool.and_eq_true, beq_iff_eq, decide_eq_true_eq] at hc
     obtain ⟨h1, h2⟩ := ev_p ht he
     obtain ⟨hy, hok⟩ := ev_rel ht y
     obtain ⟨w', hr, hw'⟩ := storeAt_run hT hw hc.1.2 hb hy hok hc.1.1.1 hc.1.1.2 hc.2
     have hrun : (execOp a.eval { dst := dst, op := .store t x y, type := ty, pos := pos, after := after, guard := guard }).run P w = .ok .skip w' := by
      simp only [execOp, h1]
      rw [Sem.run_bind, hr]; rfl
     refine wpi_skip hrun (hK _ _ ⟨_, β, ?_, ?_, ?_, fun e => by simp [isStoreB] at e, h⟩)
     ·rw [put_h]
      have : (s.h.set b (.cells (putAV cs d (cellsOf (ev s y))) ty')).length = s.h.length := by simp
      simp only [this]
      exact RelT.put (s := { s with h := s.h.set b (.cells (putAV cs d (cellsOf (ev s y))) ty') }) ht avr_v (by simp only [AV.ok]) dst
     ·rw [put_h]; exact hw'
     ·rw [put_h]; exact ⟨by simp, fun _ _ => rfl⟩
    ·exact h.elim
   ·exact h.elim
  ·rename_i b i d he
   split at h
   ·rename_i e c xs hb
    split at h
    ·rename_i us hus
     split at h
     ·rename_i hc
      simp only [Bool.and_eq_true, beq_iff_eq, decide_eq_true_eq] at hc
      split at h
      ·rename_i u hu
       obtain ⟨⟨h1, h2, ad, h3, h4⟩, h5⟩ := ev_e ht he
       obtain ⟨hy, hok⟩ := ev_rel ht y
       have hany : ev s y ≠ .any /\ ∀ l, ev s y ≠ .tup l := by
        constructor
        ·intro e; rw [e] at hus; simp [cellsOf, plain] at hus
        ·intro l e; rw [e] at hus; simp [cellsOf, plain] at hus
       have hcr := plain_rel hus (cells_rel hy hany.1 hany.2)
       have hcok := (hw.hb b _ _ _ _ hb).ok
       have hone : ∀ x ∈ us, x.oneCell' = true := by
        intro x hx
        have henc := hcok.one u
        by_cases hfull : us.length = c.sz
        ·have hb2 : (us.length == c.sz) = true := by simpa using hfull
         rw [hb2, if_pos rfl] at hu
         rw [hcok.dec _ _ hu] at henc
         exact henc x hx
        ·have hb2 : (us.length == c.sz) = false := by simpa using hfull
         rw [hb2] at hu
         have hdec := hcok.dec _ _ hu
         rw [hdec, putAt_take _ _ _ (by rw [hcok.len]; exact hc.2)] at henc
         exact henc x (by simp [hx])
       obtain ⟨w', hr, hw'⟩ := storeRow_run hT hw hc.1.2 hb h1 h2 h3 hcr hone hu hc.1.1 hc.2
       have hrun : (execOp a.eval { dst := dst, op := .store t x y, type := ty, pos := pos, after := after, guard := guard }).run P w = .ok .skip w' := by
        simp only [execOp, h4]
        rw [Sem.run_bind, hr]; rfl
       refine wpi_skip hrun (hK _ _ ⟨_, β, ?_, ?_, ?_, fun e => by simp [isStoreB] at e, h⟩)
       ·rw [put_h]
        have : (s.h.set b (.row true e c (Env.std.set c.α xs i u))).length = s.h.length := by simp
        simp only [this]
        exact RelT.put (s := { s with h := s.h.set b (.row true e c (Env.std.set c.α xs i u)) }) ht avr_v (by simp only [AV.ok]) dst
       ·rw [put_h]; exact hw'
       ·rw [put_h]; exact ⟨by simp, fun _ _ => rfl⟩
      ·exact h.elim
     ·exact h.elim
    ·exact h.elim
   ·exact h.elim
  ·exact h.elim
 | binOp op t x y t2 =>
  simp only [actA] at h
  split at h
  ·rename_i hc
   simp only [Bool.and_eq_true, beq_iff_eq] at hc
   obtain ⟨⟨c0, c1⟩, c2⟩ := hc
   have nil_ev : ∀ z, Op.isNil (ev s z) = true -> a.eval z = .slice none 0 0 := by
    intro z hz
    unfold Op.isNil at hz
    split at hz
    ·rename_i he; exact ev_c ht he
    ·rename_i he; exact ev_v ht he
    ·cases hz
   have hy := nil_ev y c2
   have hq := Tab.at_ok hT (Tab.has_of (t := t) (by rw [c1]; decide))
   obtain ⟨d, hd, hkd, hel, _⟩ := hq.und'
   rw [c1] at hkd
   cases d <;> simp [kindB] at hkd
   have hrun : ∀ (d : Option Addr) (l c : Nat), a.eval x = .slice d l c -> (execOp a.eval { dst := dst, op := .binOp .eql t x y t2, type := ty, pos := pos, after := after, guard := guard }).run P w = .ok (.value (.bool d.isNone)) w := by
    intro d l c hx
    simp only [execOp, hx, hy]
    refine run_value ?_
    rw [Sem.run_bind]
    have : (eqGuard .eql t x y (.slice d l c) (.slice none 0 0)).run P w = .ok () w := rfl
    rw [this]
    exact Go.Lib.run_eql_slice_nil w t _ d l c 0 0 hd
   split at h
   ·split at h
    ·rename_i hx
     have := hrun none 0 0 (nil_ev x hx)
     exact wpi_of this (hK _ _ (.same ht hw avr_c (by simp only [AV.ok]) h))
    ·split at h
     ·rename_i b l he
      split at h
      ·rename_i ow e c xs hb
       obtain ⟨⟨h1, h2, h3⟩, h4⟩ := ev_s ht he
       have hrb := hw.hb b _ _ _ _ hb
       have hrd := hw.reads hb
       have hn := hrb.n
       refine wpi_of (hrun _ _ _ h3) (hK _ _ (.same ht hw avr_v (by simp only [AV.ok]) (h.out _ fun hv => ?_)))
       have hnone : (β b).a = none := by simpa using hv
       cases xs with
       | nil => simp at hn; omega
       | cons y ys => obtain ⟨_, h, _⟩ := hrd 0 y rfl; rw [hnone] at h; cases h
      ·exact h.elim
     ·rename_i b o' l he
      split at h
      ·rename_i ow e c xs hb
       obtain ⟨⟨h1, h2, h3, d, k, h4, h5, h6⟩, h7⟩ := ev_w ht he
       have hrb := hw.hb b _ _ _ _ hb
       have hrd := hw.reads hb
       have hn := hrb.n
       refine wpi_of (hrun _ _ _ h4) (hK _ _ (.same ht hw avr_v (by simp only [AV.ok]) (h.out _ fun hv => ?_)))
       have hnone : d = none := by simpa using hv
       refine Decidable.byContradiction fun hl => ?_
       have h8 := h6 (by omega)
       rw [hnone] at h8
       cases hba : (β b).a with
       | some a => rw [hba] at h8; cases h8
       | none =>
        cases xs with
        | nil => simp at hn; omega
        | cons y ys => obtain ⟨_, h, _⟩ := hrd 0 y rfl; rw [hba] at h; cases h
      ·exact h.elim
     ·exact h.elim
   ·exact h.elim
  ·exact h.elim
 | buildSlice t len parts =>
  simp only [actA] at h
  split at h
  ·rename_i hc
   simp only [Bool.and_eq_true, beq_iff_eq] at hc
   obtain ⟨⟨⟨c1, c0⟩, cp⟩, c3⟩ := hc
   subst c0
   have hparts : parts = #[] := Array.eq_empty_of_size_eq_zero cp
   subst hparts
   split at h
   ·rename_i cd hcd
    have hq := Tab.at_ok hT (Tab.has_of (t := t) (by rw [c1]; decide))
    have hqe := Tab.at_ok hT c3
    obtain ⟨hcok, hzero, hcsz⟩ := hqe.cd cd hcd
    obtain ⟨d, hd, hkd, hel, _⟩ := hq.und'
    rw [c1] at hkd
    cases d <;> simp [kindB] at hkd
    simp only [elemB] at hel
    subst hel
    have hrun : (execOp a.eval { dst := dst, op := .buildSlice t 0 #[], type := ty, pos := pos, after := after, guard := guard }).run P w = .ok (.value (.slice (some ⟨w.heap.size, 0, none⟩) 0 0)) { w with heap := w.heap.push (.cells #[] (tt.at t).elem) } := by
     simp only [execOp]
     rw [Sem.run_bind]
     unfold Instr.buildSlice
     simp only [Sem.run_bind, run_und hd, Result.andThen_ok, run_size hqe]
     rw [if_neg (by omega), if_pos (by omega)]
     simp only [Sem.run_bind, Sem.run_pure, Result.andThen_ok]
     simp [Instr.fill, newRow, run_newObj]
     exact congrArg (fun z => w.alloc (Obj.cells z (tt.at t).elem)) (Array.eq_empty_of_size_eq_zero (by simp))
    refine wpi_of hrun (hK _ _ (.new ht (l := ⟨w.heap.size, some ⟨w.heap.size, 0, none⟩, 0, cd.sz, 0⟩) (hw.newRow hcok rfl rfl ?_ (below_push (Nat.le_refl _))) ?_ ?_ h))
    ·refine ⟨by simp, .inr ⟨w.heap.size, _, _, rfl, Nat.le_refl _, heap_push_at, by simp, ?_, ?_, ?_⟩⟩
     ·simp only [maxLen]; omega
     ·simp
     ·simp
    ·refine avr_s (Int.le_refl _) (by rw [grow_at]; simp) (by rw [grow_at]; rfl)
    ·simp only [AV.ok]; omega
   ·exact h.elim
  split at h
  ·rename_i hc
   simp only [Bool.and_eq_true, beq_iff_eq, decide_eq_true_eq] at hc
   obtain ⟨⟨⟨⟨⟨⟨c1, c0⟩, c2⟩, c3⟩, c4⟩, c5⟩, c6⟩ := hc
   split at h
   ·rename_i cs hcs
    have hq := Tab.at_ok hT c2
    have hqe := Tab.at_ok hT c3
    obtain ⟨d, hd, hkd, hel, _⟩ := hq.und'
    rw [c1] at hkd
    cases d <;> simp [kindB] at hkd
    simp only [elemB] at hel
    subst hel
    obtain ⟨us, h1, h2, h3⟩ := fillA_run ht parts.toList _ ((Array.range (len * (tt.at (tt.at t).elem).sz)).map ((tt.at (tt.at t).elem).zero.toArray[· % (tt.at (tt.at t).elem).zero.toArray.size]!)) cs _ hcs
     (by rw [repL_eq _ _ c5 c6]; exact repeatL_rel _ _) (repeatL_ok _ _ _)
    have hrun : (execOp a.eval { dst := dst, op := .buildSlice t len parts, type := ty, pos := pos, after := after, guard := guard }).run P w = .ok (.value (.slice (some ⟨w.heap.size, 0, none⟩) len len)) { w with heap := w.heap.push (.cells us (tt.at t).elem) } := by
     simp only [execOp]
     rw [Sem.run_bind]
     unfold Instr.buildSlice
     simp only [Sem.run_bind, run_und hd, Result.andThen_ok, run_size hqe]
     rw [if_neg (by omega)]
     have hl0 : ¬ len * (tt.at (tt.at t).elem).sz = 0 := by have := Nat.mul_pos c0 c6; omega
     ·rw [if_neg hl0]
      simp only [Sem.run_bind, run_zero hqe, Result.andThen_ok, Sem.run_pure, zero_cells hqe]
      have e1 : (parts.map fun (x : Nat × Operand) => (x.1, a.eval x.2)).toList = parts.toList.map fun (i, x) => (i, a.eval x) := by simp
      rw [e1, h1]
      simp only [Sem.run_bind, newRow, run_newObj, Result.andThen_ok, Sem.run_pure]
    refine wpi_of hrun (hK _ _ (.new ht (l := ⟨w.heap.size, none, 0, 0, 0⟩) (hw.new h2 h3 _ rfl) ?_ ?_ h))
    ·simp only [AVR, grow_at]
    ·simp only [AV.ok]; omega
   ·exact h.elim
  ·exact h.elim
 | makeSlice t l c =>
  simp only [actA] at h
  split at h
  ·rename_i hk
   simp only [Bool.and_eq_true, beq_iff_eq] at hk
   have hq := Tab.at_ok hT (Tab.has_of (t := t) (by rw [hk.1]; decide))
   have hqe := Tab.at_ok hT hk.2
   split at h
   ·rename_i cd k1 kl i k2 kc j hcd hl hc
    obtain ⟨hneed, hk'⟩ := h
    obtain ⟨⟨_, hi, hij⟩, hf⟩ := hneed
    simp only [Env.std] at hf
    obtain ⟨hcok, hzero, hcsz⟩ := hqe.cd cd hcd
    obtain ⟨d, hd, hkd, hel, _⟩ := hq.und'
    rw [hk.1] at hkd
    cases d <;> simp [kindB] at hkd
    simp only [elemB] at hel
    subst hel
    obtain ⟨inf, hinf, hzr, hsz, hby⟩ := hqe.info'
    have hrun : (execOp a.eval { dst := dst, op := .makeSlice t l c, type := ty, pos := pos, after := after, guard := guard }).run P w = .ok (.value (.slice (some ⟨w.heap.size, 0, none⟩) i.toNat j.toNat)) { w with heap := w.heap.push (.cells ((Array.range (j.toNat * (tt.at (tt.at t).elem).sz)).map ((tt.at (tt.at t).elem).zero.toArray[· % (tt.at (tt.at t).elem).zero.toArray.size]!)) (tt.at t).elem) } := by
     simp only [execOp, sv_eval ht hl, sv_eval ht hc]
     have := run_make (P := P) w t (tt.at t).elem inf _ hd hinf hzr kl kc i j hi hij (by rw [hby, Int.mul_comm]; omega) (by omega)
     rw [Sem.run_bind, this, hsz, zero_cells hqe]
     rfl
    have hz0 : (tt.at (tt.at t).elem).zero.length = (tt.at (tt.at t).elem).sz := hqe.sz.symm
    have hpos : 0 < (tt.at (tt.at t).elem).sz := by rw [<- hcsz]; exact hcok.pos
    refine wpi_of hrun (hK _ _ (.new ht (l := ⟨w.heap.size, some ⟨w.heap.size, 0, none⟩, j.toNat, cd.sz, i.toNat⟩) (hw.newRow hcok rfl (by simp [Env.std]) ?_ (below_push (Nat.le_refl _))) ?_ ?_ hk'))
    ·refine ⟨by rw [flat_length hcok]; simp [Env.std], .inr ⟨w.heap.size, _, _, rfl, Nat.le_refl _, heap_push_at, by simp only; omega, ?_, ?_, ?_⟩⟩
     ·simp only [maxLen]; omega
     ·simp [hcsz]
     ·rw [repL_eq _ _ hz0 hpos, repL_flat hzero, flat_take hcok]
      simp only [Env.std, List.take_replicate]
      congr 2
      omega
    ·refine avr_s hi (by rw [grow_at]; simp only; omega) (by rw [grow_at])
    ·simp only [AV.ok]; omega
   ·exact h.elim
  ·exact h.elim
 | convert t1 t2 x =>
  simp only [actA] at h
  split at h
  ·rename_i hc
   simp only [Bool.and_eq_true, beq_iff_eq] at hc
   obtain ⟨⟨⟨⟨⟨c0, c1⟩, c2⟩, c3⟩, c4⟩, c5⟩ := hc
   split at h
   ·rename_i hik
    split at h
    ·rename_i b l he
     split at h
     ·rename_i ow e c xs hb
      obtain ⟨hneed, hk⟩ := h
      obtain ⟨⟨h1, h2, h3⟩, h4⟩ := ev_s ht he
      have hrb := hw.hb b _ _ _ _ hb
      have hrd := hw.reads hb
      have hn := hrb.n
      have hsz1 : c.sz = 1 := by obtain ⟨m, hm⟩ := hneed c.z; rw [<- hrb.ok.len c.z, hm]; rfl
      have hlen : (Env.std.tk c.α xs l).length = l.toNat := by simp only [Env.std, List.length_take]; omega
      have hrd' : Reads w (β b).a c (Env.std.tk c.α xs l) := by
       intro i x hx
       simp only [Env.std, List.getElem?_take] at hx
       split at hx
       ·exact hrd i x hx
       ·cases hx
      have := bytes_run (k := (β b).cap) hT c1 c2 c3 c4 hik hrb.ok hsz1 hneed hrd'
      rw [hlen] at this
      refine wpi_of (w' := w) (v := .string (Env.std.b2s c.α c.enc (Env.std.tk c.α xs l))) ?_ (hK _ _ (.same ht hw avr_v (by simp only [AV.ok]) hk))
      simp only [execOp, h3]
      exact run_value this
     ·exact h.elim
    ·rename_i b o' l he
     split at h
     ·rename_i ow e c xs hb
      obtain ⟨hneed, hk⟩ := h
      obtain ⟨⟨h1, h2, h3, d, k, h4, h5, h6⟩, h7⟩ := ev_w ht he
      have hrb := hw.hb b _ _ _ _ hb
      have hrd := hw.reads hb
      have hn := hrb.n
      have hsz1 : c.sz = 1 := by obtain ⟨m, hm⟩ := hneed c.z; rw [<- hrb.ok.len c.z, hm]; rfl
      have hlen : (Env.std.wnd c.α xs o' l).length = l.toNat := by simp only [Env.std, List.length_take, List.length_drop]; omega
      have hrd' : Reads w d c (Env.std.wnd c.α xs o' l) := by
       intro i x hx
       simp only [Env.std, List.getElem?_take, List.getElem?_drop] at hx
       split at hx
       ·obtain ⟨b', hb', hcl⟩ := hrd _ x hx
        rw [h6 (by omega), hb', hrb.z]
        refine ⟨_, rfl, fun j u hu => ?_⟩
        rw [add_add, <- hcl j u hu, Nat.add_mul, Nat.add_assoc]
       ·cases hx
      have := bytes_run (k := k) hT c1 c2 c3 c4 hik hrb.ok hsz1 hneed hrd'
      rw [hlen] at this
      refine wpi_of (w' := w) (v := .string (Env.std.b2s c.α c.enc (Env.std.wnd c.α xs o' l))) ?_ (hK _ _ (.same ht hw avr_v (by simp only [AV.ok]) hk))
      simp only [execOp, h4]
      exact run_value this
     ·exact h.elim
    ·obtain ⟨ys, ⟨⟨d, k, hv, hr⟩⟩, hk⟩ := appA_news (tt := tt) ht hw cB_ok h
     have := bytes_run (k := k) hT c1 c2 c3 c4 hik cB_ok rfl (fun y => ⟨y, rfl⟩) hr
     refine wpi_of (w' := w) (v := .string (Env.std.b2s Int cB.enc ys)) ?_ (hK _ _ (.same ht hw avr_v (by simp only [AV.ok]) hk))
     simp only [execOp, hv]
     exact run_value this
    ·exact h.elim
   ·exact h.elim
  ·exact h.elim
 | call c =>
  obtain ⟨callee, args, argTypes⟩ := c
  cases callee with
  | value f =>
   simp only [actA] at h
   split at h
   ·rename_i g first caps hf
    -- what comes back
    have fin : ∀ (e : Ending) (w'' : World), (∃ v x h' β', e = .returned v /\ AVR β' x v /\ x.ok h'.length /\ RelW w0 β' h' w'' /\ Ext s.h.length β h' β' /\ (match (generalizing := false) n0 with
      | none => K (({ s with h := h' } : St).put dst x)
      | some _ => h'.take s.h.length = s.h /\ K (({ s with h := h' } : St).put dst x))) -> ∃ v, e = .returned v /\ K' (a.put dst v) w'' := by
     rintro e w'' ⟨v, x, h', β', rfl, hxr, hxk, hw', hext, hk⟩
     have hk' : (isStoreB (.call { callee := .value f, args := args, argTypes := argTypes }) || n0.isNone) = false -> h'.take s.h.length = s.h := by
      intro e
      cases n0 with
      | none => simp at e
      | some m => exact hk.1
     have hk2 : K (({ s with h := h' } : St).put dst x) := by
      cases n0 with
      | none => exact hk
      | some m => exact hk.2
     refine ⟨v, rfl, hK _ _ ⟨_, β', ?_, ?_, ?_, fun e => ?_, hk2⟩⟩
     ·rw [put_h]
      refine RelT.put (s := { s with h := h' }) ?_ hxr hxk dst
      exact ⟨AVRs_congr ht.ok hext.2 ht.rel, ht.defers, AV.oks_mono ht.ok hext.1⟩
     ·rw [put_h]; exact hw'
     ·rw [put_h]; exact hext
     ·rw [put_h]; exact hk' e
    obtain ⟨he1, he2⟩ := evs_rel ht args.toList
    -- a function
    have real : g ≠ yieldId -> (∃ fs cs, a.eval f = .func (.func g) fs cs /\ AVRs β first fs.toList /\ AVRs β caps cs.toList /\ AV.oks s.h.length first /\ AV.oks s.h.length caps) ->
      Oper.wpIn (fen r) 0 P { dst := dst, op := .call { callee := .value f, args := args, argTypes := argTypes }, type := ty, pos := pos, after := after, guard := guard } a w K' Q := by
     rintro hne ⟨fs, cs, hfv, hr1, hr2, hk1, hk2⟩
     have hct := hC.1 _ _ _ _ h hne
     obtain ⟨hent, hout⟩ := hct.out w0 β w (fs ++ args.map a.eval ++ cs) hw (oks_append (oks_append hk1 he2) hk2) (by
      have : (fs ++ args.map a.eval ++ cs).toList = fs.toList ++ args.toList.map a.eval ++ cs.toList := by simp
      rw [this]
      exact (hr1.append he1).append hr2)
     have hrun : (execOp a.eval { dst := dst, op := .call { callee := .value f, args := args, argTypes := argTypes }, type := ty, pos := pos, after := after, guard := guard }).run P w = (callFunc g (fs ++ args.map a.eval ++ cs)).run P w := by
      simp only [execOp, resolve, hfv, Deferred.ofValue, Sem.run_bind, Sem.run_pure, Result.andThen_ok, invoke]
     refine ⟨fun f _ => trivial, ?_⟩
     rw [Oper.semAt_eq _ _ _ (by intro c e; cases e), hrun, hent, Oper.uponIn_enter]
     refine ⟨fun e => (by cases e), (calls_fen hout).mono fun e w'' hh => ?_⟩
     obtain ⟨v, rfl, hk⟩ := fin e w'' hh
     exact hk
    split at hf
    ·-- yield
     rename_i b he
     injection hf with hf; injection hf with h1 hf; injection hf with h2 h3
     subst h1; subst h2; subst h3
     obtain ⟨hfe, hblt⟩ := ev_at ht he
     simp only [AVR] at hfe
     simp only [List.cons_append, List.nil_append, List.append_nil] at h
     obtain ⟨fnr, tr, ar, br, hy, hR⟩ := (hC.2 _ _ _ _ h).out r w0 β w (args.map a.eval) hw he2 (by simpa using he1)
     have hrun : (execOp a.eval { dst := dst, op := .call { callee := .value f, args := args, argTypes := argTypes }, type := ty, pos := pos, after := after, guard := guard }).run P w = .ok (.round (β b).g fnr tr ar br) w := by
      simp only [execOp, resolve, hfe, Deferred.ofValue, Sem.run_bind, Sem.run_pure, Result.andThen_ok, invoke]
      simpa using hy
     refine ⟨fun f _ => trivial, ?_⟩
     rw [Oper.semAt_eq _ _ _ (by intro c e; cases e), hrun, Oper.uponIn_round]
     refine ⟨fun e => (by cases e), hR.mono fun e w'' hh => ?_⟩
     obtain ⟨v, rfl, hk⟩ := fin e w'' hh
     exact hk
    ·rename_i g' fs cs he
     obtain ⟨h0, h1, h2, h3⟩ := realA_some hf
     subst h1; subst h2; subst h3
     exact real h0 ⟨fs, cs, ev_c ht he, AVRs.vs _, AVRs.vs _, oks_vs _, oks_vs _⟩
    ·rename_i g' fs cs he
     obtain ⟨h0, h1, h2, h3⟩ := realA_some hf
     subst h1; subst h2; subst h3
     exact real h0 ⟨fs, cs, ev_v ht he, AVRs.vs _, AVRs.vs _, oks_vs _, oks_vs _⟩
    ·rename_i g' fs cs he
     obtain ⟨h0, h1, h2, h3⟩ := realA_some hf
     subst h1; subst h2; subst h3
     have := ev_at ht he
     simp only [AVR, AV.ok] at this
     obtain ⟨⟨fs', cs', h1, h2, h3⟩, h4, h5⟩ := this
     exact real h0 ⟨fs', cs', h1, h2, h3, h4, h5⟩
    ·cases hf
   ·exact h.elim
  | builtin bn =>
   cases bn with
   | append =>
    simp only [actA] at h
    split at h
    ·rename_i x y t t' ha hta
     have ha' : args = #[x, y] := by apply Array.ext'; simpa using ha
     have hb' : argTypes = #[t, t'] := by apply Array.ext'; simpa using hta
     subst ha'; subst hb'
     split at h
     ·rename_i hc
      simp only [Bool.and_eq_true, beq_iff_eq] at hc
      obtain ⟨⟨htt, hk⟩, hel⟩ := hc
      subst htt
      have hq := Tab.at_ok hT (Tab.has_of (t := t) (by rw [hk]; decide))
      have hqe := Tab.at_ok hT hel
      split at h
      ·rename_i cd hcd
       obtain ⟨hcok, hzero, hcsz⟩ := hqe.cd cd hcd
       split at h
       ·rename_i hnil
        have hx : a.eval x = .slice none 0 0 := by
         unfold Op.isNil at hnil
         split at hnil
         ·rename_i he; exact ev_c ht he
         ·rename_i he; exact ev_v ht he
         ·cases hnil
        obtain ⟨ys, hn, hneed, hk'⟩ := appA_news (tt := tt) ht hw hcok h
        simp only [Env.std] at hneed
        obtain ⟨d', cap', w', h1, h2, h3, h4⟩ := append_run (ty := ty) hq hk hqe hcok hcsz (base := w.heap.size) (Nat.le_refl _) (d := none) (cap := 0) (xs := []) (ys := ys) (World.ownsRow_nil _ _ _ _) hn (by simpa [Env.std] using hneed)
        simp only [List.length_nil, Nat.zero_add, List.nil_append] at h1 h2
        have hgb : Below w.heap.size w w' := ⟨h3.os, h3.tape, h3.output, h3.size, fun k hk => h3.block k hk (by simp)⟩
        refine wpi_of (callAppend rfl (by rw [hx]; exact h1)) (hK _ _ (.new ht (l := ⟨0, d', cap', cd.sz, ys.length⟩) (hw.newRow hcok rfl rfl h2 hgb) ?_ ?_ hk'))
        ·refine avr_s (by simp only [Env.std]; omega) (by rw [grow_at]; simp [Env.std]) (by rw [grow_at]; simp [Env.std])
        ·simp only [AV.ok]; omega
       ·split at h
        ·rename_i b l he
         split at h
         ·rename_i e c xs hb
          split at h
          ·rename_i hcc
           simp only [Bool.and_eq_true, beq_iff_eq] at hcc
           obtain ⟨hee, hcz⟩ := hcc
           subst hee
           obtain ⟨⟨q1, q2, q3⟩, q4⟩ := ev_s ht he
           have hrb := hw.hb b _ _ _ _ hb
           split at h
           ·rename_i o' m hir
            obtain ⟨hneed, hk'⟩ := h
            simp only [Env.std] at hneed
            have hy : ev s y = .w b o' m := inRow_some hir
            obtain ⟨⟨p1, p2, p3, d2, c2, p4, p5, p6⟩, p7⟩ := ev_w ht hy
            have hln := hrb.n
            obtain ⟨w', r1, r2⟩ := appIn_run (ty := ty) hT hw hk hel hb hcz (l := l) (o := o') (m := m) q1 p1 p2 (by omega) (by omega) p6 p5
            refine wpi_of (callAppend rfl (by rw [q3, p4]; exact r1)) (hK _ _ ?_)
            refine ⟨_, β, ?_, ?_, ?_, fun e => by simp [isStoreB] at e, hk'⟩
            ·rw [put_h]
             have e1 : (s.h.set b (.row true (tt.at t).elem c (Env.std.app c.α (Env.std.tk c.α xs l) (Env.std.app c.α (Env.std.wnd c.α xs o' m) (Env.std.wnd c.α xs (Env.std.ad l m) (Env.std.sb (Env.std.len c.α xs) (Env.std.ad l m))))))).length = s.h.length := by simp
             show RelT _ _ (s.h.set b _).length _ _
             rw [e1]
             refine RelT.put (s := { s with h := s.h.set b (.row true (tt.at t).elem c (Env.std.app c.α (Env.std.tk c.α xs l) (Env.std.app c.α (Env.std.wnd c.α xs o' m) (Env.std.wnd c.α xs (Env.std.ad l m) (Env.std.sb (Env.std.len c.α xs) (Env.std.ad l m)))))) }) ht ?_ ?_ dst
             ·refine avr_s (by simp only [Env.std]; omega) (by simp only [Env.std]; omega) (by simp only [Env.std])
             ·simp only [AV.ok]; omega
            ·rw [put_h]; exact r2
            ·rw [put_h]; exact ⟨by simp, fun _ _ => rfl⟩
           ·rename_i hir
            obtain ⟨ys, hn, hneed, hk'⟩ := appA_news (tt := tt) ht hw hrb.ok h
            obtain ⟨_, _, _, hown⟩ := hw.blk b _ hb
            have hln := hrb.n
            rw [hln] at hown
            have hlx : l.toNat <= xs.length := by omega
            have hpre := ownsRow_prefix hrb.ok hown hlx
            have hlt : (xs.take l.toNat).length = l.toNat := by rw [List.length_take]; omega
            have hpre' : w.ownsRow w0.heap.size (tt.at t).elem c.sz (.slice (β b).a (xs.take l.toNat).length (β b).cap) (xs.take l.toNat).length ((xs.take l.toNat).flatMap c.enc) := by
             rw [hlt]
             refine ownsRow_base hpre (fun d hd => ?_)
             exact hw.mine b _ d.block hb (by simp [Blk.occ, hd])
            simp only [Env.std] at hneed
            have hfit : Env.std.fits (((xs.take l.toNat).length : Int) + ys.length) (tt.at (tt.at t).elem).bytes := by
             simp only [Env.std]
             rw [hlt, toNat_cast q1]; exact hneed
            obtain ⟨d', cap', w', h1, h2, h3, h4⟩ := append_run (ty := ty) hq hk hqe hrb.ok hcz hle (xs := xs.take l.toNat) (ys := ys) hpre' hn hfit
            have hkill := hw.kill b
            have hm : ∀ k, (β b).a.map (·.block) = some k -> w0.heap.size <= k /\ (∀ (i : Nat) c, (s.h.set b .dead)[i]? = some c -> c.occ (β i) ≠ some k) /\ (∀ (i : Nat) e c xs, (s.h.set b .dead)[i]? = some (.row false e c xs) -> xs ≠ [] -> ∀ d, (β i).a = some d -> d.block ≠ k) := by
             intro k hk
             have hocc : (Blk.row true (tt.at t).elem c xs).occ (β b) = some k := by simp only [Blk.occ]; exact hk
             refine ⟨hw.mine b _ k hb hocc, fun i c' hi ho => ?_, fun i e c' xs' hi hx d hd => ?_⟩
             ·rw [List.getElem?_set] at hi
              split at hi
              ·injection hi with hi; subst hi; simp [Blk.occ] at ho
              ·rename_i hne; exact hne (hw.inj b i _ c' k hb hi hocc ho)
             ·rw [List.getElem?_set] at hi
              split at hi
              ·injection hi with hi; cases hi
              ·exact hw.ro i b e c' xs' _ k hi hx hb hocc d hd
            have hstep := hkill.step' h3 hm (fun g hg e => by
             have hocc : (Blk.row true (tt.at t).elem c xs).occ (β b) = some g := e
             exact hw.mk_ne hg hb hocc rfl)
            have hlenset : (s.h.set b .dead).length = s.h.length := by simp
            have hadd := hstep.add (b := .row true (tt.at t).elem c (xs.take l.toNat ++ ys)) (l := ⟨0, d', cap', c.sz, (xs.take l.toNat).length + ys.length⟩) ⟨hrb.ok, rfl, by simp, ownsRow_base h2 (fun _ _ => Nat.zero_le _)⟩ trivial (by
             intro k hk
             simp only [Blk.occ] at hk
             have hob : (Value.slice d' ((xs.take l.toNat).length + ys.length) cap').ownBlock = some k := by
              cases d' with
              | none => simp at hk
              | some x => simpa [Value.ownBlock] using hk
             rcases h4 with h4 | h4
             ·rw [hob] at h4; exact hm k h4.symm
             ·rw [hob] at h4; injection h4 with h4; subst h4
              refine ⟨hle, fun i c' hi ho => ?_, fun i e c' xs' hi hx d hd e2 => ?_⟩
              ·have := hkill.occ_lt hi ho; omega
              ·have := hkill.ro_lt hi hx hd; omega) (fun _ _ _ e => by cases e)
            rw [hlenset] at hadd
            refine wpi_of (callAppend rfl (by rw [q3]; rw [hlt] at h1; exact h1)) (hK _ _ ?_)
            refine ⟨_, grow β s.h.length ⟨0, d', cap', c.sz, (xs.take l.toNat).length + ys.length⟩, ?_, ?_, ?_, fun e => by simp [isStoreB] at e, hk'⟩
            ·rw [put_h]
             have e1 : (St.new { s with h := s.h.set b .dead } (.row true (tt.at t).elem c (Env.std.app c.α (Env.std.tk c.α xs l) ys))).h.length = s.h.length + 1 := by simp [St.new]
             rw [e1]
             refine RelT.put (s := St.new { s with h := s.h.set b .dead } (.row true (tt.at t).elem c (Env.std.app c.α (Env.std.tk c.α xs l) ys))) (ht.grow _) ?_ ?_ dst
             ·refine avr_s (by simp only [Env.std]; omega) ?_ ?_
              ·rw [grow_at]; simp only [Env.std]; rw [hlt]; omega
              ·rw [grow_at]; simp only [Env.std]; congr 1; omega
             ·simp only [AV.ok]; omega
            ·rw [put_h]; exact hadd
            ·rw [put_h]; exact ⟨by simp [St.new], fun i hi => grow_lt hi⟩
          ·exact h.elim
         ·exact h.elim
        ·exact h.elim
      ·exact h.elim
     ·exact h.elim
    ·exact h.elim
   | clear =>
    simp only [actA] at h
    split at h
    ·rename_i x t ha hta
     have ha' : args = #[x] := by apply Array.ext'; simpa using ha
     have hb' : argTypes = #[t] := by apply Array.ext'; simpa using hta
     subst ha'; subst hb'
     split at h
     ·rename_i hc
      simp only [Bool.and_eq_true, beq_iff_eq] at hc
      obtain ⟨hk, hel⟩ := hc
      split at h
      ·rename_i b p l he
       split at h
       ·rename_i e c xs hb
        obtain ⟨⟨hzz, hsum⟩, hk'⟩ := h
        obtain ⟨⟨q1, q2, q3, d, cap, q4, q5, q6⟩, q7⟩ := ev_w ht he
        have hrb := hw.hb b _ _ _ _ hb
        obtain ⟨w', r1, r2⟩ := clearRow_run (ty := ty) hT hw hk hel hb hzz q1 q2 hsum q6 (cap := cap)
        refine wpi_of (callClear rfl (by rw [q4]; exact r1)) (hK _ _ ?_)
        refine ⟨_, β, ?_, ?_, ?_, fun e => by simp at e, hk'⟩
        ·rw [put_h]
         have e1 : (s.h.set b (.row true e c (Env.std.app c.α (Env.std.tk c.α xs p) (Env.std.rep c.α l c.z)))).length = s.h.length := by simp
         show RelT _ _ (s.h.set b _).length _ _
         rw [e1]
         exact RelT.put (s := { s with h := s.h.set b (.row true e c (Env.std.app c.α (Env.std.tk c.α xs p) (Env.std.rep c.α l c.z))) }) ht (y := .tuple #[]) (by simp only [AVR]) (by simp only [AV.ok]) dst
        ·rw [put_h]; exact r2
        ·rw [put_h]; exact ⟨by simp, fun _ _ => rfl⟩
       ·exact h.elim
      ·exact h.elim
     ·exact h.elim
    ·exact h.elim
   | _ => simp only [actA] at h
  | _ => simp only [actA] at h
 | _ => simp only [actA] at h
end
end Go.Proofs.YtfdealobplcboaaGreat.Sx

set_option linter.unusedVariables false
set_option linter.unusedSimpArgs false
namespace Go.Proofs.YtfdealobplcboaaGreat.Sx
open Go.RowKit Go.Proofs.YtfdealobplcboaaGreatW.PrintLast Go.Proofs.YtfdealobplcboaaGreatW.PrintWords
section
variable {P : Program} {β : Nat -> Loc} {n : Nat} {s : St} {a : Act} {dd : List Deferred} {ro : Option Nat}
theorem fork_true {b : Bool} {x y : Unit -> Prop} (h : fork b x y) (hb : b = true) : x () := h.t hb
theorem fork_false {b : Bool} {x y : Unit -> Prop} (h : fork b x y) (hb : b = false) : y () := h.f hb
/-- A step of the executor, its pure part told apart. -/
theorem stepP_cases {tt : Tab} {E : Env} {C : Hdl} {n0 : Option Nat} {o : Oper} {K : St -> Prop} (h : stepP P E tt C n0 o s K) :
  (∃ p x, pureA E tt s o.op = some (p, x) /\ (∀ q, p = some q -> q) /\ K (s.put o.dst x)) \/ actA P E tt C n0 o s K := by
 unfold stepP at h
 split at h
 ·rename_i x he; exact .inl ⟨_, x, he, (fun q hq => by cases hq), h⟩
 ·rename_i p x he; exact .inl ⟨_, x, he, (fun q hq => by injection hq with hq; subst hq; exact h.ok), h.k⟩
 ·exact .inr h
theorem stepP_sound {tt : Tab} (hT : TabOk P tt) {C : Hdl} (hC : C.ok P) {w0 : Base} {w : World} (ht : RelT dd β s.h.length s.t a) (hw : RelW w0 β s.h w) {o : Oper} {n0 : Option Nat} {K : St -> Prop} (h : stepP P Env.std tt C n0 o s K)
  {Q : Exit -> Act -> World -> Prop} {K' : Act -> World -> Prop} (hK : ∀ a' w', After dd w0 β s.h (isStoreB o.op || n0.isNone) K a' w' -> K' a' w') : o.wpIn (fen ro) 0 P a w K' Q := by
 rcases stepP_cases h with ⟨p, x, he, hp, hk⟩ | h
 ·obtain ⟨y, hy, hr, hok⟩ := pureA_sound hT ht hw.hb he hp
  exact wpi_of (hy w) (hK _ _ (.same ht hw hr hok hk)) (fun c e => by rw [e] at he; cases he)
 ·exact actA_sound hT hC ht hw h hK
theorem yielded_of {ops : Array Oper} {j d : Nat} {oj : Oper} (hj : ops[j]? = some oj) (hd : oj.dst = some d) (ht : RelT dd β n s.t a) {x : AV} (hv : s.t[d]? = some x) : ∃ v, AVR β x v /\ yielded ops a.tmps j = (match v with | .bool b => some b | _ => none) := by
 obtain ⟨u, hu, hr⟩ := AVRs_get ht.rel hv
 have hu' : a.tmps[d]? = some u := by simpa using hu
 refine ⟨u, hr, ?_⟩
 unfold yielded
 simp only [hj, Option.bind_some, hd, hu']
 cases u <;> rfl
theorem RelT.know (ht : RelT dd β n s.t a) {d : Nat} {b : Bool} (hv : s.t[d]? = some (.v (.bool b))) : RelT dd β n (s.t.set d (.c (.bool b))) a := by
 refine ⟨?_, ht.defers, oks_set ht.ok (by simp only [AV.ok]) d⟩
 obtain ⟨u, hu, hr⟩ := AVRs_get ht.rel hv
 simp only [AVR] at hr
 subst hr
 have := ht.rel.set (x := .c (.bool b)) (u := .bool b) avr_c d
 have e : a.tmps.toList.set d (.bool b) = a.tmps.toList := by
  apply List.ext_getElem?
  intro i
  rw [List.getElem?_set]
  split
  ·rename_i e; subst e
   rw [hu]
   split
   ·rfl
   ·rename_i hlt; exact absurd (List.getElem?_eq_some_iff.1 hu).1 hlt
  ·rfl
 rw [e] at this; exact this
/-- What a guard comes to. -/
theorem guardP_cases {tt : Tab} {E : Env} {C : Hdl} {ops : Array Oper} {n0 : Option Nat} {o : Oper} {K : St -> Prop} (ht : RelT dd β n s.t a) (h : guardP P E tt C n0 ops.toList o s K) :
  ∃ s' : St, s'.h = s.h /\ RelT dd β n s'.t a /\ ((Region.wanted o (yielded ops a.tmps) = true /\ stepP P E tt C n0 o s' K) \/ (Region.wanted o (yielded ops a.tmps) = false /\ K (s'.put o.dst (.v undef)))) := by
 unfold guardP at h
 split at h
 ·rename_i hg
  exact ⟨s, rfl, ht, .inl ⟨by simp [Region.wanted, hg], h⟩⟩
 ·rename_i j want hg
  split at h
  ·rename_i oj hj
   have hj' : ops[j]? = some oj := by simpa using hj
   split at h
   ·rename_i d hd
    split at h
    ·rename_i b hv
     obtain ⟨v, hr, hy⟩ := yielded_of hj' hd ht hv
     simp only [AVR] at hr; subst hr
     simp only at hy
     refine ⟨s, rfl, ht, ?_⟩
     split at h
     ·rename_i hb
      have : b = want := by simpa using hb
      exact .inl ⟨by simp [Region.wanted, hg, hy, this], h⟩
     ·rename_i hb
      have : ¬ b = want := by simpa using hb
      exact .inr ⟨by simp [Region.wanted, hg, hy, this], h⟩
    ·rename_i b hv
     obtain ⟨v, hr, hy⟩ := yielded_of hj' hd ht hv
     simp only [AVR] at hr; subst hr
     simp only at hy
     have hkn := ht.know hv
     cases want with
     | true =>
      simp only [if_true] at h
      cases b with
      | true => exact ⟨{ s with t := s.t.set d (.c (.bool true)) }, rfl, hkn, .inl ⟨by simp [Region.wanted, hg, hy], h.t rfl⟩⟩
      | false => exact ⟨{ s with t := s.t.set d (.c (.bool false)) }, rfl, hkn, .inr ⟨by simp [Region.wanted, hg, hy], h.f rfl⟩⟩
     | false =>
      simp only [Bool.false_eq_true, if_false] at h
      cases b with
      | true => exact ⟨{ s with t := s.t.set d (.c (.bool true)) }, rfl, hkn, .inr ⟨by simp [Region.wanted, hg, hy], h.t rfl⟩⟩
      | false => exact ⟨{ s with t := s.t.set d (.c (.bool false)) }, rfl, hkn, .inl ⟨by simp [Region.wanted, hg, hy], h.f rfl⟩⟩
    ·rename_i vs hv
     obtain ⟨v, hr, hy⟩ := yielded_of hj' hd ht hv
     simp only [AVR] at hr; subst hr
     simp only at hy
     exact ⟨s, rfl, ht, .inr ⟨by simp [Region.wanted, hg, hy], h⟩⟩
    ·exact h.elim
   ·exact h.elim
  ·exact h.elim
theorem guardP_sound {tt : Tab} (hT : TabOk P tt) {C : Hdl} (hC : C.ok P) {w0 : Base} {w : World} {ops : Array Oper} (ht : RelT dd β s.h.length s.t a) (hw : RelW w0 β s.h w) {o : Oper} {i : Nat} (hi : ops[i]? = some o) {n0 : Option Nat} {K : St -> Prop} (h : guardP P Env.std tt C n0 ops.toList o s K)
  {Q : Exit -> Act -> World -> Prop} {K' : Act -> World -> Prop} (hK : ∀ a' w', After dd w0 β s.h (isStoreB o.op || n0.isNone) K a' w' -> K' a' w') : wpOpIn (fen ro) 0 P ops Q i K' a w := by
 unfold wpOpIn
 simp only [hi]
 obtain ⟨s', hh, ht', hc⟩ := guardP_cases ht h
 rw [<- hh] at ht' hw hK
 rcases hc with ⟨hw1, hs⟩ | ⟨hw1, hk⟩
 ·rw [if_pos hw1]; exact stepP_sound hT hC ht' hw hs hK
 ·rw [if_neg (by rw [hw1]; decide)]; exact ⟨fun f _ => trivial, hK _ _ (.same ht' hw avr_v (by simp only [AV.ok]) hk)⟩
/-- A region in the text's order. -/
theorem runText_sound {tt : Tab} (hT : TabOk P tt) {C : Hdl} (hC : C.ok P) {w0 : Base} {m : Nat} {β0 : Nat -> Loc} {ops : Array Oper} {Q : Exit -> Act -> World -> Prop} {K : St -> Prop} : ∀ (is : List Nat) (s : St) (β : Nat -> Loc) (a : Act) (w : World), RelT dd β s.h.length s.t a -> RelW w0 β s.h w -> Ext m β0 s.h β ->
  runOrd P Env.std tt C none ops.toList is s K -> (∀ s' β' a' w', RelT dd β' s'.h.length s'.t a' -> RelW w0 β' s'.h w' -> Ext m β0 s'.h β' -> K s' -> Q .normal a' w') -> wpOpsIn (fen ro) 0 P ops Q is a w
 | [], s, β, a, w, ht, hw, hx, h, hQ => hQ s β a w ht hw hx h
 | i :: is, s, β, a, w, ht, hw, hx, h, hQ => by
  simp only [runOrd] at h
  split at h
  ·rename_i o ho
   have ho' : ops[i]? = some o := by simpa using ho
   rw [wpOpsIn_cons]
   refine guardP_sound hT hC ht hw ho' h (fun a' w' hA => ?_)
   obtain ⟨s', β', ht', hw', hx', _, hk⟩ := hA
   exact runText_sound hT hC is s' β' a' w' ht' hw' ⟨Nat.le_trans hx.1 hx'.1, fun i hi => by rw [hx'.2 i (Nat.lt_of_lt_of_le hi hx.1), hx.2 i hi]⟩ hk hQ
  ·exact h.elim
theorem act_not_pure {E : Env} {tt : Tab} {op : Op} {p : Option Prop} {x : AV} (h : pureA E tt s op = some (p, x)) : isActB op = false /\ isLoadB op = false /\ isStoreB op = false := by
 cases op with
 | call c =>
  obtain ⟨callee, args, ts⟩ := c
  cases callee with
  | value f => simp [pureA] at h
  | builtin b => cases b <;> first | exact ⟨rfl, rfl, rfl⟩ | simp [pureA] at h
  | _ => exact ⟨rfl, rfl, rfl⟩
 | load t x => simp [pureA] at h
 | store t x y => simp [pureA] at h
 | alloc t => simp [pureA] at h
 | box t x => simp [pureA] at h
 | buildSlice t l p => simp [pureA] at h
 | makeSlice t l p => simp [pureA] at h
 | _ => exact ⟨rfl, rfl, rfl⟩
theorem act_is {tt : Tab} {E : Env} {C : Hdl} {m : Nat} {o : Oper} {K : St -> Prop} (h : actA P E tt C (some m) o s K) : isActB o.op = true \/ isLoadB o.op = true \/ isStoreB o.op = true := by
 obtain ⟨dst, op, ty, pos, after, guard⟩ := o
 cases op with
 | call c =>
  obtain ⟨callee, args, ts⟩ := c
  cases callee with
  | value f => exact .inl rfl
  | builtin b => cases b <;> first | exact .inr (.inr rfl) | simp [actA] at h
  | _ => simp [actA] at h
 | load t x => exact .inr (.inl rfl)
 | store t x y => exact .inr (.inr rfl)
 | alloc t => exact .inl rfl
 | box t x => exact .inl rfl
 | buildSlice t l p => exact .inl rfl
 | makeSlice t l p => exact .inl rfl
 | convert t1 t2 x => simp [actA] at h
 | binOp op t x y t2 => simp [actA] at h
 | _ => simp [actA] at h
theorem AVR_unique {x : AV} {u v : Value} (hd : x.det = true) (h : AVR β x u) (h' : AVR β x v) : u = v := by
 cases x with
 | any => simp [AV.det] at hd
 | w b o l => simp [AV.det] at hd
 | fn g f c => simp [AV.det] at hd
 | tup l => simp [AV.det] at hd
 | agg l => simp [AV.det] at hd
 | c y => simp only [AVR] at h h'; rw [h, h']
 | v y => simp only [AVR] at h h'; rw [h, h']
 | p b o => simp only [AVR] at h h'; rw [h, h']
 | q b o l c => simp only [AVR] at h h'; rw [h, h']
 | e b i o =>
  simp only [AVR] at h h'
  obtain ⟨_, _, d, h1, h2⟩ := h; obtain ⟨_, _, d', h1', h2'⟩ := h'
  rw [h1] at h1'; injection h1' with h1'; subst h1'; rw [h2, h2']
 | s b l => simp only [AVR] at h h'; rw [h.2.2, h'.2.2]
 | yl b => simp only [AVR] at h h'; rw [h, h']
 | arr b =>
  simp only [AVR] at h h'
  obtain ⟨d, h1, _, h2⟩ := h; obtain ⟨d', h1', _, h2'⟩ := h'
  rw [h1] at h1'; injection h1' with h1'; subst h1'; rw [h2, h2']
/-- One operation of a drawn region, and what comes behind it. -/
theorem draw_op {tt : Tab} (hT : TabOk P tt) {C : Hdl} (hC : C.ok P) {w0 : Base} {m : Nat} {βm : Nat -> Loc} {ops : Array Oper} {ds : List Nat} {h0 : List Blk} {β0 : Nat -> Loc} (hok0 : ∀ b ∈ h0, b.okh h0.length) {Q : Exit -> Act -> World -> Prop} {i : Nat} {o : Oper} {sd : Bool} {s : St} {β : Nat -> Loc} {a : Act} {w : World} {F : St -> Prop} {R : Act -> World -> Prop}
  (ho' : ops[i]? = some o) (ht : RelT dd β s.h.length s.t a) (hw : RelW w0 β s.h w) (hle : h0.length <= s.h.length) (hβ : ∀ i, i < h0.length -> β i = β0 i) (hh0 : sd = false -> s.h.take h0.length = h0) (hx : Ext m βm s.h β)
  (h : guardP P Env.std tt C (some h0.length) ops.toList o s F) (h1 : isStoreB o.op = true -> ds.contains i = true) (h2 : isStoreB o.op = false -> sd = true -> ds.contains i = true)
  (rest : ∀ s' β' a' w', RelT dd β' s'.h.length s'.t a' -> RelW w0 β' s'.h w' -> h0.length <= s'.h.length -> (∀ i, i < h0.length -> β' i = β0 i) -> ((sd || isStoreB o.op) = false -> s'.h.take h0.length = h0) -> Ext m βm s'.h β' -> F s' -> R a' w') :
  wpOpIn (fen ro) 0 P ops Q i (fun a' w' => (i ∉ ds -> RelW w0 β0 h0 w -> RelW w0 β0 h0 w') /\ R a' w') a w := by
 refine guardP_sound hT hC ht hw ho' h (fun a' w' hA => ?_)
 obtain ⟨s', β', ht', hw', ⟨hle', hβ'⟩, htake, hk⟩ := hA
 simp only [Option.isNone_some, Bool.or_false] at htake
 have hβ2 : ∀ i, i < h0.length -> β' i = β0 i := fun i hi => by rw [hβ' i (by omega), hβ i hi]
 have htake2 : sd = false -> isStoreB o.op = false -> s'.h.take h0.length = h0 := by
  intro e1 e2
  have e3 := htake e2
  have e4 := hh0 e1
  have : s'.h.take h0.length = (s'.h.take s.h.length).take h0.length := by rw [List.take_take]; congr 1; omega
  rw [this, e3, e4]
 refine ⟨fun hn _ => ?_, ?_⟩
 ·have hns : isStoreB o.op = false := by
   cases e : isStoreB o.op with
   | false => rfl
   | true => exact absurd (by simpa using h1 e) hn
  have hsd : sd = false := by
   cases e : sd with
   | false => rfl
   | true => exact absurd (by simpa using h2 hns e) hn
  exact hw'.restrict (htake2 hsd hns) hβ2 hok0
 ·refine rest s' β' a' w' ht' hw' (by omega) hβ2 (fun e => ?_) ⟨Nat.le_trans hx.1 hle', fun i hi => by rw [hβ' i (Nat.lt_of_lt_of_le hi hx.1), hx.2 i hi]⟩ hk
  simp only [Bool.or_eq_false_iff] at e
  exact htake2 e.1 e.2
theorem runDraw_sound {tt : Tab} (hT : TabOk P tt) {C : Hdl} (hC : C.ok P) {w0 : Base} {m : Nat} {βm : Nat -> Loc} {ops : Array Oper} {ds : List Nat} {h0 : List Blk} {β0 : Nat -> Loc} (hok0 : ∀ b ∈ h0, b.okh h0.length) (hnd : noDefer ops = true)
  {Q : Exit -> Act -> World -> Prop} (hQ : ∀ c a w, ¬ Q (.panic c) a w) {K : St -> Prop} : ∀ (t : Ot) (n : Nat) (l : Array Bool) (sd fl : Bool) (s : St) (β : Nat -> Loc) (a : Act) (w : World), chk ops ds t n l sd fl = true ->
  RelT dd β s.h.length s.t a -> RelW w0 β s.h w -> h0.length <= s.h.length -> (∀ i, i < h0.length -> β i = β0 i) -> (sd = false -> s.h.take h0.length = h0) -> Ext m βm s.h β ->
  runOt P Env.std tt C (some h0.length) ops.toList t s K -> (∀ s' β' a' w', RelT dd β' s'.h.length s'.t a' -> RelW w0 β' s'.h w' -> Ext m βm s'.h β' -> K s' -> Q .normal a' w') ->
  (fl = false -> wpAnyLastIn P ro .any ops Q (fun w => RelW w0 β0 h0 w) ds n l a w) /\ (fl = true -> ∀ j ∈ idsO t, ∃ n', n = n' + 1 /\ wpOpIn (fen ro) 0 P ops Q j (fun a' w' => (j ∉ ds -> RelW w0 β0 h0 w -> RelW w0 β0 h0 w') /\ wpAnyLastIn P ro .any ops Q (fun w => RelW w0 β0 h0 w) ds n' (l.setIfInBounds j true) a' w') a w)
 | .nil, n, l, sd, fl, s, β, a, w, hc, ht, hw, _, _, _, hx, h, hK => by
  simp only [chk, Bool.and_eq_true, Bool.not_eq_true', beq_iff_eq] at hc
  refine ⟨fun _ => ?_, fun e => by rw [hc.1.1] at e; cases e⟩
  exact wpAnyLastIn_done hc.2 (hK s β a w ht hw hx h) n
 | .stop, n, l, sd, fl, s, β, a, w, hc, _, _, _, _, _, _, _, _ => by
  simp only [chk] at hc
  exact ⟨fun e => (by rw [hc] at e; cases e), fun _ j hj => by simp [idsO] at hj⟩
 | .br i r nx, n, l, sd, fl, s, β, a, w, hc, ht, hw, hle, hβ, hh0, hx, h, hK => by
  simp only [runOt] at h
  split at h
  ·rename_i o ho
   have ho' : ops[i]? = some o := by simpa using ho
   simp only [chk, ho', Bool.and_eq_true] at hc
   obtain ⟨⟨hc0, hc1⟩, hc2⟩ := hc
   cases n with
   | zero => cases hc1
   | succ n =>
    simp only [Bool.and_eq_true, Bool.or_eq_true, Bool.not_eq_true'] at hc1
    obtain ⟨⟨q1, q2⟩, q3⟩ := hc1
    have hb : ∀ j ∈ i :: idsO nx, wpOpIn (fen ro) 0 P ops Q j (fun a' w' => (j ∉ ds -> RelW w0 β0 h0 w -> RelW w0 β0 h0 w') /\ wpAnyLastIn P ro .any ops Q (fun w => RelW w0 β0 h0 w) ds n (l.setIfInBounds j true) a' w') a w := by
     intro j hj
     rcases List.mem_cons.1 hj with rfl | hj
     ·refine draw_op hT hC hok0 ho' ht hw hle hβ hh0 hx h.l (fun e => ?_) (fun _ e => ?_) (fun s' β' a' w' g1 g2 g3 g4 g5 g6 g7 => ?_)
      ·rcases q1 with q | q
       ·rw [e] at q; cases q
       ·exact q
      ·rcases q2 with q | q
       ·rw [e] at q; cases q
       ·exact q
      ·exact (runDraw_sound hT hC hok0 hnd hQ r n _ (sd || isStoreB o.op) false s' β' a' w' q3 g1 g2 g3 g4 g5 g6 g7 hK).1 rfl
     ·obtain ⟨n', e, q⟩ := (runDraw_sound hT hC hok0 hnd hQ nx (n + 1) l sd true s β a w hc2 ht hw hle hβ hh0 hx h.r hK).2 rfl j hj
      injection e with e
      subst e
      exact q
    refine ⟨fun e => ?_, fun _ j hj => ⟨n, rfl, hb j hj⟩⟩
    subst e
    simp only [Bool.false_or, beq_iff_eq] at hc0
    exact wpAnyLastIn_all hc0 (by simp) hb
  ·exact h.elim
 | .op i r, n, l, sd, fl, s, β, a, w, hc, ht, hw, hle, hβ, hh0, hx, h, hK => by
  simp only [runOt] at h
  split at h
  ·rename_i o ho
   have ho' : ops[i]? = some o := by simpa using ho
   simp only [chk, ho', Bool.and_eq_true, Bool.not_eq_true'] at hc
   obtain ⟨hfl, hc⟩ := hc
   refine ⟨fun _ => ?_, fun e => by rw [hfl] at e; cases e⟩
   cases n with
   | zero => cases hc
   | succ n =>
   simp only [Bool.and_eq_true] at hc
   obtain ⟨hc1, hc2⟩ := hc
   have hS : sd = false -> RelW w0 β0 h0 w := fun e => hw.restrict (hh0 e) hβ hok0
   -- an operation that comes up alone
   have alone : readyB .any ops l (l.setIfInBounds i true) i = true -> (isStoreB o.op = true -> ds.contains i = true) -> (isStoreB o.op = false -> sd = true -> ds.contains i = true) ->
     wpAnyLastIn P ro .any ops Q (fun w => RelW w0 β0 h0 w) ds (n + 1) l a w := by
    intro hr h1 h2
    simp only [readyB, Bool.and_eq_true, beq_iff_eq] at hr
    refine wpAnyLastIn_all hr.1 (by simp) (fun j hj => ?_)
    have hji : j = i := by simpa using hj
    subst hji
    exact draw_op hT hC hok0 ho' ht hw hle hβ hh0 hx h h1 h2 (fun s' β' a' w' g1 g2 g3 g4 g5 g6 g7 => (runDraw_sound hT hC hok0 hnd hQ r n _ (sd || isStoreB o.op) false s' β' a' w' hc2 g1 g2 g3 g4 g5 g6 g7 hK).1 rfl)
   split at hc1
   ·rename_i hst
    simp only [Bool.and_eq_true] at hc1
    exact alone hc1.1 (fun _ => hc1.2) (fun e => by rw [hst] at e; cases e)
   ·rename_i hst
    have hst' : isStoreB o.op = false := by simpa using hst
    split at hc1
    ·rename_i hact
     simp only [Bool.and_eq_true] at hc1
     exact alone hc1.1 (fun e => by rw [hst'] at e; cases e) (fun _ e => by simpa [e] using hc1.2)
    ·rename_i hact
     have hact' : isActB o.op = false := by simpa using hact
     rw [hst', Bool.or_false] at hc2
     obtain ⟨s1, hh1, ht1, hcase⟩ := guardP_cases ht h
     have hw1 : RelW w0 β s1.h w := by rw [hh1]; exact hw
     have ht1' : RelT dd β s1.h.length s1.t a := by rw [hh1]; exact ht1
     have hx1 : Ext m βm s1.h β := by rw [hh1]; exact hx
     have hle1 : h0.length <= s1.h.length := by rw [hh1]; exact hle
     have hh01 : sd = false -> s1.h.take h0.length = h0 := by rw [hh1]; exact hh0
     -- goes on with a value
     have on : ∀ {x : AV} {y : Value} (d : Option Tmp), AVR β x y -> x.ok s1.h.length -> runOt P Env.std tt C (some h0.length) ops.toList r (s1.put d x) K -> wpAnyLastIn P ro .any ops Q (fun w => RelW w0 β0 h0 w) ds n (l.setIfInBounds i true) (a.put d y) w := by
      intro x y d hr hok hk
      refine (runDraw_sound hT hC hok0 hnd hQ r n _ sd false (s1.put d x) β _ w hc2 ?_ ?_ ?_ hβ ?_ ?_ hk hK).1 rfl
      ·rw [put_h]; exact ht1'.put hr hok d
      ·rw [put_h]; exact hw1
      ·rw [put_h]; exact hle1
      ·rw [put_h]; exact hh01
      ·rw [put_h]; exact hx1
     split at hc1
     ·rename_i hld
      simp only [Bool.and_eq_true, Bool.not_eq_true'] at hc1
      obtain ⟨hsd, htake⟩ := hc1
      rcases hcase with ⟨hwt, hs⟩ | ⟨hwf, hk⟩
      ·rcases stepP_cases hs with ⟨p, x, he, _⟩ | hact2
       ·have := (act_not_pure he).2.1; rw [hld] at this; cases this
       ·obtain ⟨dst, op, ty, pos, after, guard⟩ := o
        cases op <;> simp [isLoadB] at hld
        rename_i t x
        simp only [actA] at hact2
        split at hact2
        ·rename_i y hy
         split at hact2
         ·rename_i hdet
          simp only [Option.isNone_some, Bool.false_or] at hdet
          have hlim : (lim (some h0.length) s1).h = h0 := hh01 hsd
          have hSβ : ∀ w', RelW w0 β0 h0 w' -> RelW w0 β h0 w' := fun w' hS' => hS'.restrict List.take_length (fun i hi => (hβ i hi).symm) hok0
          have hload : ∀ w', RelW w0 β0 h0 w' -> ∃ v, (Instr.loadAt t (a.eval x)).run P w' = .ok v w' /\ AVR β y v /\ y.ok h0.length := fun w' hS' => by
           have := loadA_sound (s := lim (some h0.length) s1) hT ht1 (by rw [hlim]; exact hSβ w' hS') hy
           rw [hlim] at this; exact this
          obtain ⟨v, hv, hvr, hvok⟩ := hload w (hS hsd)
          refine takeIn_ hnd (v := v) (l.setIfInBounds i true) ho' rfl htake (fun c a w hq => absurd hq (hQ c _ _)) (.inl ⟨hwt, fun w' hS' => ?_⟩) (hS hsd) rfl ?_
          ·obtain ⟨v', hv', hvr', _⟩ := hload w' hS'
           rw [AVR_unique hdet hvr hvr']
           exact execLoad rfl hv'
          ·exact on dst hvr (AV.ok_mono hvok hle1) hact2
         ·exact hact2.elim
        ·exact hact2.elim
      ·refine takeIn_ hnd (l.setIfInBounds i true) ho' rfl htake (fun c a w hq => absurd hq (hQ c _ _)) (.inr ⟨hwf, rfl⟩) (hS hsd) rfl ?_
       exact on _ avr_v (by simp only [AV.ok]) hk
     ·rename_i hld
      have hld' : isLoadB o.op = false := by simpa using hld
      rcases hcase with ⟨hwt, hs⟩ | ⟨hwf, hk⟩
      ·rcases stepP_cases hs with ⟨p, x, he, hp, hk⟩ | hact2
       ·obtain ⟨y, hy, hr, hok⟩ := pureA_sound hT ht1' hw1.hb he hp
        refine pureIn_ hnd (l.setIfInBounds i true) ho' rfl hc1 (fun c a w hq => absurd hq (hQ c _ _)) (.inl ⟨hwt, hy⟩) rfl ?_
        exact on _ hr hok hk
       ·rcases act_is hact2 with e | e | e
        ·rw [hact'] at e; cases e
        ·rw [hld'] at e; cases e
        ·rw [hst'] at e; cases e
      ·refine pureIn_ hnd (l.setIfInBounds i true) ho' rfl hc1 (fun c a w hq => absurd hq (hQ c _ _)) (.inr ⟨hwf, rfl⟩) rfl ?_
       exact on _ avr_v (by simp only [AV.ok]) hk
  ·exact h.elim
end
end Go.Proofs.YtfdealobplcboaaGreat.Sx
