/- Part 17 of what the statement needs: an executor of Go texts, arithmetic, and contracts of the functions that are called. -/
import Derived.Test.YtfdealobplcboaaGreatCu7
import Derived.Test.YtfdealobplcboaaGreatCu8
import Derived.Test.YtfdealobplcboaaGreatCu13
import Derived.Test.YtfdealobplcboaaGreatChecked
import Derived.Lib.Builder
import Derived.Lib.UnsafeStr
import Derived.Lib.Walk
import Derived.Lib.Strings
import Derived.Lib.Slices
import Derived.WalkKit
import Derived.Laws.Externs
set_option linter.unusedVariables false
set_option linter.unusedSimpArgs false
namespace Go.Proofs.YtfdealobplcboaaGreat.Sx
open Go.RowKit
set_option maxHeartbeats 1000000 in
set_option maxRecDepth 100000 in
theorem copy_used (b : Nat) (w : World) (h0 : w.cell? ⟨b, 0, none⟩ = some (.pointer (some ⟨b, 0, none⟩))) :
  Calls Tryz.prog 237 #[.pointer (some ⟨b, 0, none⟩)] w fun e w' => e = .returned (.tuple #[]) /\ w' = w := by
 have sizeBuilder : (Tryz.prog.info? 177).map (fun i => i.size) = some 2 := by kernel_rfl
 have u1 : Tryz.prog.underlying 175 = some (.pointer 177) := by kernel_rfl
 obtain ⟨j, hj, _⟩ := Option.map_eq_some_iff.1 sizeBuilder
 go_enter Tryz.func237, Tryz.ntmps237
 go_wp2
 rw [Lib.run_neq_ptr_same w _ u1 hj]
 go_wp2
 go_end0
 exact ⟨rfl, rfl⟩
set_option maxHeartbeats 1000000 in
set_option maxRecDepth 100000 in
theorem copy_fresh (b : Nat) (w : World) (h0 : w.cell? ⟨b, 0, none⟩ = some (.pointer none)) (hsh : w.shape? b = some (177, 2)) (hfz : w.frozen? ⟨b, 0, none⟩ = false) :
  Calls Tryz.prog 237 #[.pointer (some ⟨b, 0, none⟩)] w fun e w' => e = .returned (.tuple #[]) /\ w' = w.setCell ⟨b, 0, none⟩ (.pointer (some ⟨b, 0, none⟩)) := by
 have sizeBuilder : (Tryz.prog.info? 177).map (fun i => i.size) = some 2 := by kernel_rfl
 have u1 : Tryz.prog.underlying 175 = some (.pointer 177) := by kernel_rfl
 have u2 : Tryz.prog.underlying 217 = some .unsafePointer := by kernel_rfl
 have lies : liesAt Tryz.prog Tryz.prog.depth 177 (2 / Tryz.prog.cellsOf 177) 0 177 1 = true := by kernel_rfl
 obtain ⟨j, hj, hjs⟩ := Option.map_eq_some_iff.1 sizeBuilder
 go_enter Tryz.func237, Tryz.ntmps237
 go_wp2
 rw [Lib.run_to_unsafe w ⟨b, 0, none⟩ u1 u2 hj (by rw [hjs]; decide) hsh (Nat.zero_lt_succ 1)]
 simp only [Result.andThen]
 rw [Oper.upon_value]
 go_wp2
 rw [run_callFunc_extern Tryz.func255 (by kernel_rfl) (by kernel_rfl) (by kernel_rfl) (e := Extern.AbiNoEscape.same) (by kernel_rfl)]
 rw [Lib.run_noEscape]
 simp only [Result.andThen]
 rw [Oper.upon_value]
 go_wp2
 rw [Lib.run_from_unsafe w ⟨b, 0, none⟩ u2 u1 hj hsh lies]
 simp only [Result.andThen]
 rw [Oper.upon_value]
 go_wp2
 go_end0
 exact ⟨rfl, rfl⟩
set_option maxHeartbeats 1000000 in
set_option maxRecDepth 100000 in
theorem build_string (b g cap : Nat) (p : Value) (cur : Array Value) (l : List UInt8) (w : World) (hbk : w.heap[b]? = some (.cells #[p, .slice (some ⟨g, 0, none⟩) l.length cap] 177 (0, 0))) (hg : w.heap[g]? = some (.cells cur 5 (0, 0))) (h0 : l ≠ []) (hnc : l.length <= cap) (hcm : cap <= maxLen) (hcs : cur.size = cap)
  (hl : ∀ (j : Nat) (x : UInt8), l[j]? = some x -> w.cell? ⟨g, j, none⟩ = some (.int .u8 x.toNat)) :
  Calls Tryz.prog 204 #[.pointer (some ⟨b, 0, none⟩)] w fun e w' => e = .returned (.string ⟨l.toArray⟩) /\ w' = w.drew.freeze ⟨g, 0, none⟩ l.length := by
 have u1 : Tryz.prog.underlying 171 = some (.slice 5) := by kernel_rfl
 have c1 : w.drew.cell? ⟨b, 1, none⟩ = some (.slice (some ⟨g, 0, none⟩) l.length cap) := by
  have : w.drew.heap[b]? = some (.cells #[p, .slice (some ⟨g, 0, none⟩) l.length cap] 177 (0, 0)) := hbk
  rw [Lib.cell_of_heap this]; rfl
 have hl0 : l.length ≠ 0 := by simpa using h0
 have hSD : (Builtin.unsafeSliceData_ #[171] 205 #[.slice (some ⟨g, 0, none⟩) l.length cap]).run Tryz.prog w.drew = .ok (.pointer (some ⟨g, 0, none⟩)) w.drew :=
  Lib.run_unsafeSliceData_row _ _ _ _ _ _ (by omega)
 have u2 : Tryz.prog.underlying 205 = some (.pointer 5) := by kernel_rfl
 have cellsByte : Tryz.prog.cellsOf 5 = 1 := by kernel_rfl
 have hUS : (Builtin.unsafeString_ #[205, 3] 9 #[.pointer (some ⟨g, 0, none⟩), .int .i64 l.length]).run Tryz.prog w.drew = .ok (.string ⟨l.toArray⟩) (w.drew.freeze ⟨g, 0, none⟩ l.length) := by
  refine Lib.run_unsafeString_row w.drew 205 3 9 5 u2 cellsByte g cur.size (by have hg' : w.drew.heap[g]? = some (.cells cur 5 (0, 0)) := hg; simp [World.shape?, hg']) l h0 (by omega) (by unfold maxLen at hcm; omega) ?_
  intro j x hx
  have := hl j x hx
  have e : (⟨g, 0, none⟩ : Addr).add j = ⟨g, j, none⟩ := by unfold Addr.add; split <;> simp_all
  rw [e]; exact this
 go_enter Tryz.func204, Tryz.ntmps204
 go_wp2
 go_region
 all_goals (go_wp2; go_ret; exact ⟨rfl, rfl⟩)
abbrev tiB : TI := { kind := 1, sz := 2, zero := [.pointer none, .slice none 0 0], flds := [(0, 1, false), (1, 1, false)], elem := 0, ik := .i64, eq := false, len := 0, bytes := 32, cd := none }
theorem tyB : TyOk Tryz.prog 177 tiB := ⟨by kernel_rfl, by kernel_rfl, (fun h => by cases h), rfl, (fun _ h => by cases h), (fun h => by cases h)⟩
def ttB : Tab := (177, tiB) :: tt
theorem ttBOk : TabOk Tryz.prog ttB := .cons tyB ttOk
theorem copy_ent (args : Array Value) (w : World) : (callFunc 237 args).run Tryz.prog w = .ok (.enter 237 args) w :=
 Go.Proofs.YtfdealobplcboaaGreatW.PrintLast.enters_ Tryz.func237 (by kernel_rfl) rfl args w
theorem str_ent (args : Array Value) (w : World) : (callFunc 204 args).run Tryz.prog w = .ok (.enter 204 args) w :=
 Go.Proofs.YtfdealobplcboaaGreatW.PrintLast.enters_ Tryz.func204 (by kernel_rfl) rfl args w
theorem CallTo.copyFresh {P' : Program} (hP : P' = Tryz.prog) {h : List Blk} {b : Nat} {x : AV} {K : AV -> List Blk -> Prop} (hb : h[b]? = some (.cells [.v (.pointer none), x] 177))
  (hk : K (.v (.tuple #[])) (h.set b (.cells [.p b 0, x] 177))) : CallTo P' h 237 [.p b 0] K := by
 subst hP
 refine ⟨fun w0 β w vs hw hok hr => ⟨copy_ent vs w, ?_⟩⟩
 simp only [AVRs, AVR] at hr
 obtain ⟨u, us, e1, rfl, rfl⟩ := hr
 have e2 : vs = #[.pointer (some ⟨(β b).g, 0, none⟩)] := by apply Array.ext'; simpa using e1
 subst e2
 obtain ⟨cs, hg, hcs⟩ := hw.blk b _ hb
 have hcs' := hcs
 simp only [AVRs, AVR] at hcs
 obtain ⟨u1, r1, e3, rfl, u2, r2, rfl, hx, rfl⟩ := hcs
 have e4 : cs = #[.pointer none, u2] := by apply Array.ext'; simpa using e3
 subst e4
 have hc0 : w.cell? ⟨(β b).g, 0, none⟩ = some (.pointer none) := by rw [cell_own hg]; rfl
 have hsh : w.shape? (β b).g = some (177, 2) := by unfold World.shape?; rw [hg]; rfl
 refine (copy_fresh (β b).g w hc0 hsh (frozen_own hg)).mono ?_
 rintro e w' ⟨rfl, rfl⟩
 have hg' : (w.setCell ⟨(β b).g, 0, none⟩ (.pointer (some ⟨(β b).g, 0, none⟩))).heap[(β b).g]? = some (.cells #[.pointer (some ⟨(β b).g, 0, none⟩), u2] 177 (0, 0)) := by
  simp only [World.setCell, Array.getElem?_modify, if_true]
  rw [hg]; rfl
 have hblt := (List.getElem?_eq_some_iff.1 hb).1
 have hxo := hw.okh _ (List.mem_of_getElem? hb)
 simp only [Blk.okh, AV.oks, AV.ok] at hxo
 have hw' := hw.change hb (blk' := .cells [.p b 0, x] 177) (by simp only [Blk.okh, AV.oks, AV.ok]; exact ⟨hblt, hxo.2.1, trivial⟩) (g := (β b).g) rfl rfl ⟨_, hg', AVRs.cons (by simp only [AVR]) (AVRs.cons hx AVRs.nil)⟩ (fun k hne => Below.heap_setCell _ _ _ _ hne) (by simp [World.setCell]) rfl rfl rfl
 exact ⟨_, .v (.tuple #[]), _, β, rfl, avr_v, by simp only [AV.ok], hw', ⟨by simp, fun _ _ => rfl⟩, hk⟩
theorem CallTo.copyUsed {P' : Program} (hP : P' = Tryz.prog) {h : List Blk} {b : Nat} {x : AV} {K : AV -> List Blk -> Prop} (hb : h[b]? = some (.cells [.p b 0, x] 177))
  (hk : K (.v (.tuple #[])) h) : CallTo P' h 237 [.p b 0] K := by
 subst hP
 refine ⟨fun w0 β w vs hw hok hr => ⟨copy_ent vs w, ?_⟩⟩
 simp only [AVRs, AVR] at hr
 obtain ⟨u, us, e1, rfl, rfl⟩ := hr
 have e2 : vs = #[.pointer (some ⟨(β b).g, 0, none⟩)] := by apply Array.ext'; simpa using e1
 subst e2
 obtain ⟨cs, hg, hcs⟩ := hw.blk b _ hb
 simp only [AVRs, AVR] at hcs
 obtain ⟨u1, r1, e3, rfl, u2, r2, rfl, hx, rfl⟩ := hcs
 have e4 : cs = #[.pointer (some ⟨(β b).g, 0, none⟩), u2] := by apply Array.ext'; simpa using e3
 subst e4
 refine (copy_used (β b).g w (by rw [cell_own hg]; rfl)).mono ?_
 rintro e w' ⟨rfl, rfl⟩
 exact ⟨_, .v (.tuple #[]), _, β, rfl, avr_v, by simp only [AV.ok], hw, ⟨Nat.le_refl _, fun _ _ => rfl⟩, hk⟩
/-- A block of its own is given up; it alone may have changed. -/
theorem RelW.lost {β : Nat -> Loc} {w0 : Base} {w w' : World} {h : List Blk} (hw : RelW w0 β h w) {b : Nat} {blk : Blk} (hb : h[b]? = some blk) {g : Nat} (ho : blk.occ (β b) = some g) (hgr : w.grownBy w' (some g)) : RelW w0 β (h.set b .dead) w' := by
 refine (hw.kill b).step' hgr (fun k hk => ?_) (fun k hk e => ?_)
 ·injection hk with hk; subst hk
  refine ⟨hw.mine b _ _ hb ho, fun i c' hi ho' => ?_, fun i e c' xs' hi hx d hd => ?_⟩
  ·rw [List.getElem?_set] at hi
   split at hi
   ·(try split at hi)
    ·injection hi with hi; subst hi; simp [Blk.occ] at ho'
    all_goals (first | cases hi | skip)
   ·rename_i hne; exact hne (hw.inj b i _ c' _ hb hi ho ho')
  ·rw [List.getElem?_set] at hi
   split at hi
   ·(try split at hi)
    ·injection hi with hi; cases hi
    all_goals (first | cases hi | skip)
   ·exact hw.ro i b e c' xs' _ _ hi hx hb ho d hd
 ·injection e with e; exact hw.mk_ne hk hb ho e.symm
def byteL (xs : List Int) : List UInt8 := xs.map fun x => UInt8.ofNat x.toNat
theorem CallTo.bstring {P' : Program} (hP : P' = Tryz.prog) {h : List Blk} {b r : Nat} {x : AV} {l : Int} {xs : List Int} {K : AV -> List Blk -> Prop} (hb : h[b]? = some (.cells [x, .s r l] 177)) (hrow : h[r]? = some (.row true 5 (cInt .u8) xs)) (hl : l = xs.length) (h0 : xs ≠ []) (hx : ∀ y ∈ xs, 0 <= y /\ y < 256)
  (hk : K (.v (.string ⟨(byteL xs).toArray⟩)) (h.set r .dead)) : CallTo P' h 204 [.p b 0] K := by
 subst hP
 refine ⟨fun w0 β w vs hw hok hr => ⟨str_ent vs w, ?_⟩⟩
 simp only [AVRs, AVR] at hr
 obtain ⟨u, us, e1, rfl, rfl⟩ := hr
 have e2 : vs = #[.pointer (some ⟨(β b).g, 0, none⟩)] := by apply Array.ext'; simpa using e1
 subst e2
 obtain ⟨cs, hg, hcs⟩ := hw.blk b _ hb
 simp only [AVRs, AVR] at hcs
 obtain ⟨u1, r1, e3, hu1, u2, r2, rfl, ⟨k1, k2, rfl⟩, rfl⟩ := hcs
 obtain ⟨hcok, hz, hn, hown⟩ := hw.blk r _ hrow
 have hlen : xs.length ≠ 0 := by simpa using h0
 have hll : l.toNat = xs.length := by omega
 rcases id hown.2 with ⟨q1, q2⟩ | ⟨g, cap, cur, q1, q2, q3, q4, q5, q6, q7⟩
 ·have : (β r).n = 0 := q2
  omega
 ·injection q1 with q1 q8 q9
  have hbl : (byteL xs).length = xs.length := by simp [byteL]
  have e4 : cs = #[u1, .slice (some ⟨g, 0, none⟩) (byteL xs).length cap] := by
   apply Array.ext'
   rw [e3, q1, hll, q9, hbl]
  subst e4
  have hsz : (cInt .u8).sz = 1 := rfl
  have hrd := hw.reads hrow
  refine (build_string (β b).g g cap u1 cur (byteL xs) w hg q3 (by intro e; apply hlen; rw [<- hbl, e]; rfl) (by rw [hbl]; omega) q5 (by rw [q6, hsz, Nat.mul_one]) ?_).mono ?_
  ·intro j y hy
   simp only [byteL, List.getElem?_map, Option.map_eq_some_iff] at hy
   obtain ⟨v, hv, rfl⟩ := hy
   obtain ⟨b', hb', hcl⟩ := hrd j v hv
   rw [q1] at hb'; injection hb' with hb'; subst hb'
   have := hcl 0 (.int .u8 v) rfl
   rw [add_own, hsz] at this
   simp only [Nat.mul_one, Nat.zero_add, Nat.add_zero] at this
   rw [this]
   have hv2 := hx v (List.mem_of_getElem? hv)
   congr 2
   rw [UInt8.toNat_ofNat']
   have : v.toNat % 256 = v.toNat := Nat.mod_eq_of_lt (by omega)
   omega
  ·rintro e w' ⟨rfl, rfl⟩
   have hocc : (Blk.row true 5 (cInt .u8) xs).occ (β r) = some g := by simp only [Blk.occ, q1]; rfl
   have hw' := hw.lost hrow hocc (w' := w.drew.freeze ⟨g, 0, none⟩ (byteL xs).length) (by
    unfold World.freeze
    split
    ·exact ⟨rfl, rfl, rfl, Nat.le_refl _, fun _ _ _ => rfl⟩
    ·refine ⟨rfl, rfl, rfl, ?_, fun k _ hne => ?_⟩
     ·show w.heap.size <= (Array.modify w.heap _ _).size
      rw [Array.size_modify]; exact Nat.le_refl _
     ·show (Array.modify w.heap _ _)[k]? = w.heap[k]?
      rw [Array.getElem?_modify, if_neg (fun e => hne (by rw [<- e]))])
   exact ⟨_, .v (.string ⟨(byteL xs).toArray⟩), _, β, rfl, avr_v, by simp only [AV.ok], hw', ⟨by simp, fun _ _ => rfl⟩, hk⟩
end Go.Proofs.YtfdealobplcboaaGreat.Sx

set_option linter.unusedVariables false
set_option linter.unusedSimpArgs false
set_option maxRecDepth 100000
set_option maxHeartbeats 4000000
namespace Go.Proofs.YtfdealobplcboaaGreat.Sx
theorem fork.tt {x y : Unit -> Prop} (h : x ()) : fork true x y := ⟨fun _ => h, fun e => (by cases e)⟩
theorem fork.ff {x y : Unit -> Prop} (h : y ()) : fork false x y := ⟨fun e => (by cases e), fun _ => h⟩
theorem print3 : Con Tryz.prog 160 [.v (.agg #[.bool false, .string ⟨#[3]⟩])] (.v (.string ⟨#[51]⟩)) := by
 have c1 : Con Tryz.prog 164 [.v (.string ⟨#[3]⟩)] (.own 169 cU [3]) := by
  have := load_con ⟨#[3]⟩ (by decide)
  have e : lb (bv ⟨#[3]⟩) = [3] := by decide +kernel
  rw [e] at this; exact this
 have c2 : Con Tryz.prog 236 [.ro cU [3], .v (.int .u32 1000000000)] (.tup [.own 169 cU [], .v (.int .u32 3)]) := by
  have := short_con 3 1000000000 (by decide +kernel) (by decide) (by decide)
  have e : lb 3 = [3] := by decide +kernel
  have e2 : lb (3 / 1000000000) = [] := by decide +kernel
  rw [e, e2] at this; exact this
 refine Con.of ttBOk mixed Tryz.func160 { un := [(5, 10), (9, 9), (17, 2)] } (.cons (f := 202) (g := {}) Tryz.func202 (by kernel_rfl) (.cons (f := 235) (g := { un := [(0, 2)] }) Tryz.func235 (by kernel_rfl) (.cons (f := 203) (g := {}) Tryz.func203 (by kernel_rfl) .nil))) 4 (by kernel_rfl) (fun P' E hP hE => ?_)
 subst hE
 cbv
 refine CallTo.con hP rfl c1 (by exact ⟨rfl, trivial⟩) ?_
 cbv
 refine ⟨fun _ => ?_, fun h => (by cases h)⟩
 cbv
 refine CallTo.con hP rfl c2 (by exact ⟨rfl, rfl, trivial⟩) ?_
 cbv
 repeat (first
  | (refine Need.mk (by first | decide | (and_intros <;> first | exact Int.NonNeg.mk _ | decide)) ?_; cbv)
  | (refine fork.tt ?_; cbv)
  | (refine fork.ff ?_; cbv)
  | (refine CallTo.copyFresh hP rfl ?_; cbv)
  | (refine CallTo.copyUsed hP rfl ?_; cbv))
 refine CallTo.bstring (xs := [51]) hP rfl rfl rfl (by simp) (by simp) ?_
 cbv
theorem print2 : Con Tryz.prog 160 [.v (.agg #[.bool false, .string ⟨#[2]⟩])] (.v (.string ⟨#[50]⟩)) := by
 have c1 : Con Tryz.prog 164 [.v (.string ⟨#[2]⟩)] (.own 169 cU [2]) := by
  have := load_con ⟨#[2]⟩ (by decide)
  have e : lb (bv ⟨#[2]⟩) = [2] := by decide +kernel
  rw [e] at this; exact this
 have c2 : Con Tryz.prog 236 [.ro cU [2], .v (.int .u32 1000000000)] (.tup [.own 169 cU [], .v (.int .u32 2)]) := by
  have := short_con 2 1000000000 (by decide +kernel) (by decide) (by decide)
  have e : lb 2 = [2] := by decide +kernel
  have e2 : lb (2 / 1000000000) = [] := by decide +kernel
  rw [e, e2] at this; exact this
 refine Con.of ttBOk mixed Tryz.func160 { un := [(5, 10), (9, 9), (17, 2)] } (.cons (f := 202) (g := {}) Tryz.func202 (by kernel_rfl) (.cons (f := 235) (g := { un := [(0, 2)] }) Tryz.func235 (by kernel_rfl) (.cons (f := 203) (g := {}) Tryz.func203 (by kernel_rfl) .nil))) 4 (by kernel_rfl) (fun P' E hP hE => ?_)
 subst hE
 cbv
 refine CallTo.con hP rfl c1 (by exact ⟨rfl, trivial⟩) ?_
 cbv
 refine ⟨fun _ => ?_, fun h => (by cases h)⟩
 cbv
 refine CallTo.con hP rfl c2 (by exact ⟨rfl, rfl, trivial⟩) ?_
 cbv
 repeat (first
  | (refine Need.mk (by first | decide | (and_intros <;> first | exact Int.NonNeg.mk _ | decide)) ?_; cbv)
  | (refine fork.tt ?_; cbv)
  | (refine fork.ff ?_; cbv)
  | (refine CallTo.copyFresh hP rfl ?_; cbv)
  | (refine CallTo.copyUsed hP rfl ?_; cbv))
 refine CallTo.bstring (xs := [50]) hP rfl rfl rfl (by simp) (by simp) ?_
 cbv
end Go.Proofs.YtfdealobplcboaaGreat.Sx

set_option linter.unusedVariables false
set_option linter.unusedSimpArgs false
set_option maxRecDepth 100000
set_option maxHeartbeats 4000000
namespace Go.Proofs.YtfdealobplcboaaGreat.Sx
theorem mgl_small {n : Nat} (h0 : n ≠ 0) (h : n < 256) : mgl n = [UInt8.ofNat n] := by
 rw [mgl_pos h0, Nat.div_eq_of_lt h, mgl_zero, Nat.mod_eq_of_lt h]; rfl
theorem mg_small {n : Nat} (h0 : n ≠ 0) (h : n < 256) : mg n = ⟨#[UInt8.ofNat n]⟩ := by
 unfold mg; rw [mgl_small h0 h]
theorem num32 : (3 / 2 : Rat).num = 3 := by decide +kernel
theorem den32 : (3 / 2 : Rat).den = 2 := by decide +kernel
theorem cr32 : cr (3 / 2) = ⟨false, ⟨#[3]⟩, ⟨#[2]⟩⟩ := by
 unfold cr
 rw [num32, den32, if_neg (by decide), show (3 : Int).natAbs = 3 from rfl, mg_small (by decide) (by decide), mg_small (by decide) (by decide)]
 rfl
theorem zV3 : zV (3 : Int) = .agg #[.bool false, .string ⟨#[3]⟩] := by
 unfold zV zR
 rw [show (3 : Int).natAbs = 3 from rfl, mg_small (by decide) (by decide)]
 rfl
theorem zV2 : zV (2 : Int) = .agg #[.bool false, .string ⟨#[2]⟩] := by
 unfold zV zR
 rw [show (2 : Int).natAbs = 2 from rfl, mg_small (by decide) (by decide)]
 rfl
theorem ratPrint32 : Con Tryz.prog 79 [.v (R.v ⟨false, ⟨#[3]⟩, ⟨#[2]⟩⟩)] (.v (.string ⟨#[51, 47, 50]⟩)) := by
 have hi : Is 1 (⟨false, ⟨#[3]⟩, ⟨#[2]⟩⟩ : R) (3 / 2) := by
  rw [<- cr32]
  exact Bd.is ⟨by rw [num32]; decide, by rw [den32]; decide⟩
 have c1 := parts_q hi (by decide)
 rw [num32, den32] at c1
 have c1 : Con Tryz.prog 158 [.v (R.v ⟨false, ⟨#[3]⟩, ⟨#[2]⟩⟩)] (.v (.tuple #[zV 3, zV 2])) := c1
 rw [zV3, zV2] at c1
 have c2 := is_con false ⟨#[2]⟩ 1 (by decide) (by decide) (by decide)
 have e3 : decide (zval false ⟨#[2]⟩ = 1) = false := by decide +kernel
 rw [e3] at c2
 have c2 : Con Tryz.prog 159 [.v (.agg #[.bool false, .string ⟨#[2]⟩]), .v (.int .i64 1)] (.v (.bool false)) := c2
 refine Con.of ttOk mixed Tryz.func79 { ord := [(4, [0, 3, 1, 2, 4, 5, 6])] } .nil 0 (by kernel_rfl) (fun P' E hP hE => ?_)
 cbv
 refine CallTo.w hP hE c1 ⟨rfl, trivial⟩ ?_
 cbv
 refine CallTo.w hP hE c2 ⟨rfl, rfl, trivial⟩ ?_
 cbv
 refine fork.ff ?_
 cbv
 refine CallTo.w hP hE print3 ⟨rfl, trivial⟩ ?_
 cbv
 refine Need.mk (by subst hE; refine (show Env.std.fits _ 1 from ?_); rw [s_fits]; decide) ?_
 cbv
 refine CallTo.w hP hE print2 ⟨rfl, trivial⟩ ?_
 cbv
 refine Need.mk (by subst hE; refine (show Env.std.fits _ 1 from ?_); rw [s_fits]; decide) ?_
 cbv
 subst hE
 rfl
end Go.Proofs.YtfdealobplcboaaGreat.Sx
