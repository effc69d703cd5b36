/- Part 17 of what the statement needs: an executor of Go texts, arithmetic, and contracts of the functions that are called. -/
import Derived.Test.YtfdealobplcboaaGreatCm116
import Derived.Test.YtfdealobplcboaaGreatChecked
import Derived.Lib.Builder
import Derived.Lib.UnsafeStr
import Derived.Lib.Walk
import Derived.Lib.Strings
import Derived.Lib.Slices
import Derived.WalkKit
import Derived.Laws.Externs
/- strings.Builder: what its methods do to a builder of the executor's. -/
set_option linter.unusedVariables false
set_option linter.unusedSimpArgs false
namespace Go.Proofs.YtfdealobplcboaaGreat.Sx
open Go.RowKit

set_option maxHeartbeats 1000000 in
set_option maxRecDepth 100000 in
theorem copy_used (b : Nat) (w : World) (h0 : w.cell? ⟨b, 0, none⟩ = some (.pointer (some ⟨b, 0, none⟩))) :
    Calls Tryz.prog 237 #[.pointer (some ⟨b, 0, none⟩)] w fun e w' => e = .returned (.tuple #[]) ∧ w' = w := by
  have sizeBuilder : (Tryz.prog.info? 177).map (fun i => i.size) = some 2 := by kernel_rfl
  have u1 : Tryz.prog.underlying 175 = some (.pointer 177) := by kernel_rfl
  obtain ⟨j, hj, _⟩ := Option.map_eq_some_iff.1 sizeBuilder
  go_enter Tryz.func237, Tryz.ntmps237
  go_wp2
  rw [Lib.run_neq_ptr_same w _ u1 hj]
  go_wp2
  go_end0
  exact ⟨rfl, rfl⟩
set_option maxHeartbeats 1000000 in
set_option maxRecDepth 100000 in
theorem copy_fresh (b : Nat) (w : World) (h0 : w.cell? ⟨b, 0, none⟩ = some (.pointer none)) (hsh : w.shape? b = some (177, 2)) (hfz : w.frozen? ⟨b, 0, none⟩ = false) :
    Calls Tryz.prog 237 #[.pointer (some ⟨b, 0, none⟩)] w fun e w' => e = .returned (.tuple #[]) ∧ w' = w.setCell ⟨b, 0, none⟩ (.pointer (some ⟨b, 0, none⟩)) := by
  have sizeBuilder : (Tryz.prog.info? 177).map (fun i => i.size) = some 2 := by kernel_rfl
  have u1 : Tryz.prog.underlying 175 = some (.pointer 177) := by kernel_rfl
  have u2 : Tryz.prog.underlying 217 = some .unsafePointer := by kernel_rfl
  have lies : liesAt Tryz.prog Tryz.prog.depth 177 (2 / Tryz.prog.cellsOf 177) 0 177 1 = true := by kernel_rfl
  obtain ⟨j, hj, hjs⟩ := Option.map_eq_some_iff.1 sizeBuilder
  go_enter Tryz.func237, Tryz.ntmps237
  go_wp2
  rw [Lib.run_to_unsafe w ⟨b, 0, none⟩ u1 u2 hj (by rw [hjs]; decide) hsh (Nat.zero_lt_succ 1)]
  simp only [Result.andThen]
  rw [Oper.upon_value]
  go_wp2
  rw [run_callFunc_extern Tryz.func255 (by kernel_rfl) (by kernel_rfl) (by kernel_rfl) (e := Extern.AbiNoEscape.same) (by kernel_rfl)]
  rw [Lib.run_noEscape]
  simp only [Result.andThen]
  rw [Oper.upon_value]
  go_wp2
  rw [Lib.run_from_unsafe w ⟨b, 0, none⟩ u2 u1 hj hsh lies]
  simp only [Result.andThen]
  rw [Oper.upon_value]
  go_wp2
  go_end0
  exact ⟨rfl, rfl⟩
set_option maxHeartbeats 1000000 in
set_option maxRecDepth 100000 in
theorem build_string (b g cap : Nat) (p : Value) (cur : Array Value) (l : List UInt8) (w : World) (hbk : w.heap[b]? = some (.cells #[p, .slice (some ⟨g, 0, none⟩) l.length cap] 177 (0, 0))) (hg : w.heap[g]? = some (.cells cur 5 (0, 0))) (h0 : l ≠ []) (hnc : l.length ≤ cap) (hcm : cap ≤ maxLen) (hcs : cur.size = cap)
    (hl : ∀ (j : Nat) (x : UInt8), l[j]? = some x → w.cell? ⟨g, j, none⟩ = some (.int .u8 x.toNat)) :
    Calls Tryz.prog 204 #[.pointer (some ⟨b, 0, none⟩)] w fun e w' => e = .returned (.string ⟨l.toArray⟩) ∧ w' = w.drew.freeze ⟨g, 0, none⟩ l.length := by
  have u1 : Tryz.prog.underlying 171 = some (.slice 5) := by kernel_rfl
  have c1 : w.drew.cell? ⟨b, 1, none⟩ = some (.slice (some ⟨g, 0, none⟩) l.length cap) := by
    have : w.drew.heap[b]? = some (.cells #[p, .slice (some ⟨g, 0, none⟩) l.length cap] 177 (0, 0)) := hbk
    rw [Lib.cell_of_heap this]; rfl
  have hl0 : l.length ≠ 0 := by simpa using h0
  have hSD : (Builtin.unsafeSliceData_ #[171] 205 #[.slice (some ⟨g, 0, none⟩) l.length cap]).run Tryz.prog w.drew = .ok (.pointer (some ⟨g, 0, none⟩)) w.drew :=
    Lib.run_unsafeSliceData_row _ _ _ _ _ _ (by omega)
  have u2 : Tryz.prog.underlying 205 = some (.pointer 5) := by kernel_rfl
  have cellsByte : Tryz.prog.cellsOf 5 = 1 := by kernel_rfl
  have hUS : (Builtin.unsafeString_ #[205, 3] 9 #[.pointer (some ⟨g, 0, none⟩), .int .i64 l.length]).run Tryz.prog w.drew = .ok (.string ⟨l.toArray⟩) (w.drew.freeze ⟨g, 0, none⟩ l.length) := by
    refine Lib.run_unsafeString_row w.drew 205 3 9 5 u2 cellsByte g cur.size (by have hg' : w.drew.heap[g]? = some (.cells cur 5 (0, 0)) := hg; simp [World.shape?, hg']) l h0 (by omega) (by unfold maxLen at hcm; omega) ?_
    intro j x hx
    have := hl j x hx
    have e : (⟨g, 0, none⟩ : Addr).add j = ⟨g, j, none⟩ := by unfold Addr.add; split <;> simp_all
    rw [e]; exact this
  go_enter Tryz.func204, Tryz.ntmps204
  go_wp2
  go_region
  all_goals (go_wp2; go_ret; exact ⟨rfl, rfl⟩)

abbrev tiB : TI := { kind := 1, sz := 2, zero := [.pointer none, .slice none 0 0], flds := [(0, 1, false), (1, 1, false)], elem := 0, ik := .i64, eq := false, len := 0, bytes := 32, cd := none }
theorem tyB : TyOk Tryz.prog 177 tiB := ⟨by kernel_rfl, by kernel_rfl, (fun h => by cases h), rfl, (fun _ h => by cases h), (fun h => by cases h)⟩
def ttB : Tab := (177, tiB) :: tt
theorem ttBOk : TabOk Tryz.prog ttB := .cons tyB ttOk

theorem copy_ent (args : Array Value) (w : World) : (callFunc 237 args).run Tryz.prog w = .ok (.enter 237 args) w :=
  Go.Proofs.YtfdealobplcboaaGreatW.PrintLast.enters_ Tryz.func237 (by kernel_rfl) rfl args w
theorem str_ent (args : Array Value) (w : World) : (callFunc 204 args).run Tryz.prog w = .ok (.enter 204 args) w :=
  Go.Proofs.YtfdealobplcboaaGreatW.PrintLast.enters_ Tryz.func204 (by kernel_rfl) rfl args w

theorem CallTo.copyFresh {P' : Program} (hP : P' = Tryz.prog) {h : List Blk} {b : Nat} {x : AV} {K : AV → List Blk → Prop} (hb : h[b]? = some (.cells [.v (.pointer none), x] 177))
    (hk : K (.v (.tuple #[])) (h.set b (.cells [.p b 0, x] 177))) : CallTo P' h 237 [.p b 0] K := by
  subst hP
  refine ⟨fun w0 β w vs hw hok hr => ⟨copy_ent vs w, ?_⟩⟩
  simp only [AVRs, AVR] at hr
  obtain ⟨u, us, e1, rfl, rfl⟩ := hr
  have e2 : vs = #[.pointer (some ⟨(β b).g, 0, none⟩)] := by apply Array.ext'; simpa using e1
  subst e2
  obtain ⟨cs, hg, hcs⟩ := hw.blk b _ hb
  have hcs' := hcs
  simp only [AVRs, AVR] at hcs
  obtain ⟨u1, r1, e3, rfl, u2, r2, rfl, hx, rfl⟩ := hcs
  have e4 : cs = #[.pointer none, u2] := by apply Array.ext'; simpa using e3
  subst e4
  have hc0 : w.cell? ⟨(β b).g, 0, none⟩ = some (.pointer none) := by rw [cell_own hg]; rfl
  have hsh : w.shape? (β b).g = some (177, 2) := by unfold World.shape?; rw [hg]; rfl
  refine (copy_fresh (β b).g w hc0 hsh (frozen_own hg)).mono ?_
  rintro e w' ⟨rfl, rfl⟩
  have hg' : (w.setCell ⟨(β b).g, 0, none⟩ (.pointer (some ⟨(β b).g, 0, none⟩))).heap[(β b).g]? = some (.cells #[.pointer (some ⟨(β b).g, 0, none⟩), u2] 177 (0, 0)) := by
    simp only [World.setCell, Array.getElem?_modify, if_true]
    rw [hg]; rfl
  have hblt := (List.getElem?_eq_some_iff.1 hb).1
  have hxo := hw.okh _ (List.mem_of_getElem? hb)
  simp only [Blk.okh, AV.oks, AV.ok] at hxo
  have hw' := hw.change hb (blk' := .cells [.p b 0, x] 177) (by simp only [Blk.okh, AV.oks, AV.ok]; exact ⟨hblt, hxo.2.1, trivial⟩) (g := (β b).g) rfl rfl ⟨_, hg', AVRs.cons (by simp only [AVR]) (AVRs.cons hx AVRs.nil)⟩ (fun k hne => Below.heap_setCell _ _ _ _ hne) (by simp [World.setCell]) rfl rfl rfl
  exact ⟨_, .v (.tuple #[]), _, β, rfl, avr_v, by simp only [AV.ok], hw', ⟨by simp, fun _ _ => rfl⟩, hk⟩

theorem CallTo.copyUsed {P' : Program} (hP : P' = Tryz.prog) {h : List Blk} {b : Nat} {x : AV} {K : AV → List Blk → Prop} (hb : h[b]? = some (.cells [.p b 0, x] 177))
    (hk : K (.v (.tuple #[])) h) : CallTo P' h 237 [.p b 0] K := by
  subst hP
  refine ⟨fun w0 β w vs hw hok hr => ⟨copy_ent vs w, ?_⟩⟩
  simp only [AVRs, AVR] at hr
  obtain ⟨u, us, e1, rfl, rfl⟩ := hr
  have e2 : vs = #[.pointer (some ⟨(β b).g, 0, none⟩)] := by apply Array.ext'; simpa using e1
  subst e2
  obtain ⟨cs, hg, hcs⟩ := hw.blk b _ hb
  simp only [AVRs, AVR] at hcs
  obtain ⟨u1, r1, e3, rfl, u2, r2, rfl, hx, rfl⟩ := hcs
  have e4 : cs = #[.pointer (some ⟨(β b).g, 0, none⟩), u2] := by apply Array.ext'; simpa using e3
  subst e4
  refine (copy_used (β b).g w (by rw [cell_own hg]; rfl)).mono ?_
  rintro e w' ⟨rfl, rfl⟩
  exact ⟨_, .v (.tuple #[]), _, β, rfl, avr_v, by simp only [AV.ok], hw, ⟨Nat.le_refl _, fun _ _ => rfl⟩, hk⟩

/-- A block of its own is given up; it alone may have changed. -/
theorem RelW.lost {β : Nat → Loc} {w0 : Base} {w w' : World} {h : List Blk} (hw : RelW w0 β h w) {b : Nat} {blk : Blk} (hb : h[b]? = some blk) {g : Nat} (ho : blk.occ (β b) = some g) (hgr : w.grownBy w' (some g)) : RelW w0 β (h.set b .dead) w' := by
  refine (hw.kill b).step' hgr (fun k hk => ?_) (fun k hk e => ?_)
  · injection hk with hk; subst hk
    refine ⟨hw.mine b _ _ hb ho, fun i c' hi ho' => ?_, fun i e c' xs' hi hx d hd => ?_⟩
    · rw [List.getElem?_set] at hi
      split at hi
      · (try split at hi)
        · injection hi with hi; subst hi; simp [Blk.occ] at ho'
        all_goals (first | cases hi | skip)
      · rename_i hne; exact hne (hw.inj b i _ c' _ hb hi ho ho')
    · rw [List.getElem?_set] at hi
      split at hi
      · (try split at hi)
        · injection hi with hi; cases hi
        all_goals (first | cases hi | skip)
      · exact hw.ro i b e c' xs' _ _ hi hx hb ho d hd
  · injection e with e; exact hw.mk_ne hk hb ho e.symm

def byteL (xs : List Int) : List UInt8 := xs.map fun x => UInt8.ofNat x.toNat
theorem CallTo.bstring {P' : Program} (hP : P' = Tryz.prog) {h : List Blk} {b r : Nat} {x : AV} {l : Int} {xs : List Int} {K : AV → List Blk → Prop} (hb : h[b]? = some (.cells [x, .s r l] 177)) (hrow : h[r]? = some (.row true 5 (cInt .u8) xs)) (hl : l = xs.length) (h0 : xs ≠ []) (hx : ∀ y ∈ xs, 0 ≤ y ∧ y < 256)
    (hk : K (.v (.string ⟨(byteL xs).toArray⟩)) (h.set r .dead)) : CallTo P' h 204 [.p b 0] K := by
  subst hP
  refine ⟨fun w0 β w vs hw hok hr => ⟨str_ent vs w, ?_⟩⟩
  simp only [AVRs, AVR] at hr
  obtain ⟨u, us, e1, rfl, rfl⟩ := hr
  have e2 : vs = #[.pointer (some ⟨(β b).g, 0, none⟩)] := by apply Array.ext'; simpa using e1
  subst e2
  obtain ⟨cs, hg, hcs⟩ := hw.blk b _ hb
  simp only [AVRs, AVR] at hcs
  obtain ⟨u1, r1, e3, hu1, u2, r2, rfl, ⟨k1, k2, rfl⟩, rfl⟩ := hcs
  obtain ⟨hcok, hz, hn, hown⟩ := hw.blk r _ hrow
  have hlen : xs.length ≠ 0 := by simpa using h0
  have hll : l.toNat = xs.length := by omega
  rcases id hown.2 with ⟨q1, q2⟩ | ⟨g, cap, cur, q1, q2, q3, q4, q5, q6, q7⟩
  · have : (β r).n = 0 := q2
    omega
  · injection q1 with q1 q8 q9
    have hbl : (byteL xs).length = xs.length := by simp [byteL]
    have e4 : cs = #[u1, .slice (some ⟨g, 0, none⟩) (byteL xs).length cap] := by
      apply Array.ext'
      rw [e3, q1, hll, q9, hbl]
    subst e4
    have hsz : (cInt .u8).sz = 1 := rfl
    have hrd := hw.reads hrow
    refine (build_string (β b).g g cap u1 cur (byteL xs) w hg q3 (by intro e; apply hlen; rw [← hbl, e]; rfl) (by rw [hbl]; omega) q5 (by rw [q6, hsz, Nat.mul_one]) ?_).mono ?_
    · intro j y hy
      simp only [byteL, List.getElem?_map, Option.map_eq_some_iff] at hy
      obtain ⟨v, hv, rfl⟩ := hy
      obtain ⟨b', hb', hcl⟩ := hrd j v hv
      rw [q1] at hb'; injection hb' with hb'; subst hb'
      have := hcl 0 (.int .u8 v) rfl
      rw [add_own, hsz] at this
      simp only [Nat.mul_one, Nat.zero_add, Nat.add_zero] at this
      rw [this]
      have hv2 := hx v (List.mem_of_getElem? hv)
      congr 2
      rw [UInt8.toNat_ofNat']
      have : v.toNat % 256 = v.toNat := Nat.mod_eq_of_lt (by omega)
      omega
    · rintro e w' ⟨rfl, rfl⟩
      have hocc : (Blk.row true 5 (cInt .u8) xs).occ (β r) = some g := by simp only [Blk.occ, q1]; rfl
      have hw' := hw.lost hrow hocc (w' := w.drew.freeze ⟨g, 0, none⟩ (byteL xs).length) (by
        unfold World.freeze
        split
        · exact ⟨rfl, rfl, rfl, Nat.le_refl _, fun _ _ _ => rfl⟩
        · refine ⟨rfl, rfl, rfl, ?_, fun k _ hne => ?_⟩
          · show w.heap.size ≤ (Array.modify w.heap _ _).size
            rw [Array.size_modify]; exact Nat.le_refl _
          · show (Array.modify w.heap _ _)[k]? = w.heap[k]?
            rw [Array.getElem?_modify, if_neg (fun e => hne (by rw [← e]))])
      exact ⟨_, .v (.string ⟨(byteL xs).toArray⟩), _, β, rfl, avr_v, by simp only [AV.ok], hw', ⟨by simp, fun _ _ => rfl⟩, hk⟩
end Go.Proofs.YtfdealobplcboaaGreat.Sx
