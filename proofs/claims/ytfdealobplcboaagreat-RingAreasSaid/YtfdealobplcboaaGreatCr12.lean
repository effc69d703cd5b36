/- Part 12 of what the statement needs: an executor of Go texts, arithmetic, and contracts of the functions that are called. -/
import Derived.Test.YtfdealobplcboaaGreatCr1
import Derived.Test.YtfdealobplcboaaGreatCr11
import Derived.Test.YtfdealobplcboaaGreatRows
import Derived.WalkKit
import Derived.ProofKit
import Derived.OpenShut
import Derived.ShutString
import Derived.ChangeOld
import Derived.Below
import Derived.SizedLaws
import Derived.Carry
import Derived.Deep.Slices
import Derived.Test.YtfdealobplcboaaGreatProg
import Derived.KernelRfl
import Derived.Laws.BitsLemmas
import Derived.Laws.Bits64
set_option linter.unusedVariables false
set_option linter.unusedSimpArgs false
set_option maxRecDepth 100000
namespace Go.Proofs.YtfdealobplcboaaGreat.Sx
open Go.ChangeShapes Go.WideShapes Go.ChangeAt Go.RowKit
section
variable {H : Type} {enc : TypeId × Value -> H} {w : World} {base : Nat} {spare : Nat -> Bool} {held : Bool}
theorem co_bool : Tryz.prog.cellsOf 4 = 1 := by kernel_rfl
theorem co_str : Tryz.prog.cellsOf 9 = 1 := by kernel_rfl
theorem co_R : Tryz.prog.cellsOf 23 = 3 := by kernel_rfl
theorem co_P : Tryz.prog.cellsOf 25 = 6 := by kernel_rfl
theorem len3 {α : Type} {l : List α} (h : l.length = 3) : ∃ a b c, l = [a, b, c] := by
 match l, h with
 | [a, b, c], _ => exact ⟨a, b, c, rfl⟩
theorem trod_R {fuel : Nat} {cs : List Value} {x : DataW H × List MemPlace} (h : DataW.trod enc Tryz.prog w base spare held fuel 23 cs = some x) : ∃ r : R, cs = r.c := by
 obtain ⟨xs, n, rfl, _, hl, hx, hf⟩ := DataW.trod_struct Tryz.underlying23 h
 rw [co_R] at hl
 obtain ⟨a, b, c, rfl⟩ := len3 hl
 obtain ⟨y0, y1, y2, rfl⟩ := len3 hx
 have h0 : DataW.trod enc Tryz.prog w base spare held n 4 (([a, b, c].drop 0).take (Tryz.prog.cellsOf 4)) = some y0 := hf 0 _ rfl
 have h1 : DataW.trod enc Tryz.prog w base spare held n 9 (([a, b, c].drop 1).take (Tryz.prog.cellsOf 9)) = some y1 := hf 1 _ rfl
 have h2 : DataW.trod enc Tryz.prog w base spare held n 9 (([a, b, c].drop 2).take (Tryz.prog.cellsOf 9)) = some y2 := hf 2 _ rfl
 rw [co_bool] at h0
 rw [co_str] at h1 h2
 obtain ⟨u, hu, _⟩ := DataW.trod_bool Tryz.underlying4 h0
 obtain ⟨v, hv, _, _⟩ := DataW.trod_string Tryz.underlying9 h1
 obtain ⟨z, hz, _, _⟩ := DataW.trod_string Tryz.underlying9 h2
 simp at hu hv hz
 subst hu hv hz
 exact ⟨⟨u, v, z⟩, rfl⟩
theorem trod_P {fuel : Nat} {cs : List Value} {x : DataW H × List MemPlace} (h : DataW.trod enc Tryz.prog w base spare held fuel 25 cs = some x) : ∃ r : Pt, cs = r.c := by
 obtain ⟨xs, n, rfl, _, hl, hx, hf⟩ := DataW.trod_struct Tryz.underlying25 h
 rw [co_P] at hl
 have hx : xs.length = 2 := hx
 obtain ⟨y0, y1, rfl⟩ : ∃ a b, xs = [a, b] := by
  match xs, hx with
  | [a, b], _ => exact ⟨a, b, rfl⟩
 have h0 : DataW.trod enc Tryz.prog w base spare held n 23 ((cs.drop 0).take (Tryz.prog.cellsOf 23)) = some y0 := hf 0 _ rfl
 have h1 : DataW.trod enc Tryz.prog w base spare held n 23 ((cs.drop 3).take (Tryz.prog.cellsOf 23)) = some y1 := hf 1 _ rfl
 rw [co_R] at h0 h1
 obtain ⟨u, hu⟩ := trod_R h0
 obtain ⟨v, hv⟩ := trod_R h1
 refine ⟨⟨u, v⟩, ?_⟩
 have e : cs = (cs.drop 0).take 3 ++ (cs.drop 3).take 3 := by
  match cs, hl with
  | [a, b, c, d, e, f], _ => rfl
 rw [e, hu, hv]; rfl
theorem okWide_agg {t : TypeId} {fs : Array Field} {r : Reach} {b0 : Nat} {v : Value} (ht : Tryz.prog.underlying t = some (.struct fs)) (h : Value.okWide Tryz.prog w r b0 t v) : ∃ cs, v = .agg cs := by
 unfold Value.okWide at h
 rw [ht] at h
 obtain ⟨cs, h, _⟩ := h
 exact ⟨cs, h⟩
theorem open_P {r : Reach} {b0 : Nat} {v : Value} {d : DataW H} {ps : List MemPlace} (hv : Value.okWide Tryz.prog w r b0 25 v) (hd : DataW.Trod enc Tryz.prog w base spare held 25 v d ps) : ∃ r : Pt, v = r.v := by
 obtain ⟨cs, rfl⟩ := okWide_agg Tryz.underlying25 hv
 obtain ⟨fuel, hf⟩ := hd
 obtain ⟨r, hr⟩ := trod_P hf
 exact ⟨r, congrArg Value.agg (Array.ext' hr)⟩
theorem trod_lt' {t : TypeId} {v : Value} {d : DataW H} {ps : List MemPlace} (h : DataW.Trod enc Tryz.prog w base spare held t v d ps) : ∀ x ∈ ps, x.block < w.heap.size := by
 obtain ⟨m, hm⟩ := h
 exact DataW.trod_lt m _ _ _ hm
end
theorem own' : ownKnob Tryz.prog.godebug = none := by kernel_rfl
theorem laidOut' : laidOutB Tryz.prog = true := by kernel_rfl
end Go.Proofs.YtfdealobplcboaaGreat.Sx

set_option linter.unusedVariables false
set_option linter.unusedSimpArgs false
set_option maxRecDepth 100000
namespace Go.Proofs.YtfdealobplcboaaGreat.Sx
open Go.ChangeShapes Go.WideShapes Go.ChangeAt Go.RowKit
instance : Inhabited Pt := ⟨⟨⟨false, ⟨#[]⟩, ⟨#[]⟩⟩, ⟨false, ⟨#[]⟩, ⟨#[]⟩⟩⟩⟩
theorem getD_range {α : Type} (f : Nat -> α) {n i : Nat} {x : α} (h : ((List.range n).map f)[i]? = some x) : i < n /\ x = f i := by
 rw [List.getElem?_map] at h
 by_cases hi : i < n
 ·rw [List.getElem?_eq_getElem (by simpa using hi)] at h
  simp at h
  exact ⟨hi, h.symm⟩
 ·rw [List.getElem?_eq_none (by simpa using hi)] at h
  cases h
section
variable {H : Type} {enc : TypeId × Value -> H} {w : World} {base : Nat} {spare : Nat -> Bool} {held : Bool}
theorem open_L {r : Reach} {b0 : Nat} {v : Value} {d : DataW H} {ps : List MemPlace} (hv : Value.okWide Tryz.prog w r b0 36 v) (hd : DataW.Trod enc Tryz.prog w base spare held 36 v d ps) :
  ∃ (xs : List Pt) (a : Option Addr) (k : Nat), v = .slice a xs.length k /\ xs.length <= k /\ k <= maxLen /\ Reads w a cP xs := by
 obtain ⟨a, len, cap, rfl⟩ := okWide_slice Tryz.underlying36 hv
 obtain ⟨fuel, hf⟩ := hd
 rcases Go.Deep.open_slice Tryz.underlying36 hf with ⟨h, _⟩ | ⟨a', len', cap', m, n, D, Pl, h, hb, hl, hm, hmm, _, hx⟩
 ·have h : Value.slice a len cap = .slice none 0 0 := by injection h
  injection h with h1 h2 h3
  subst h1 h2 h3
  exact ⟨[], none, 0, rfl, Nat.le_refl _, Nat.zero_le _, fun i x hx => by simp at hx⟩
 ·have h : Value.slice a len cap = .slice (some a') len' cap' := by injection h
  injection h with h1 h2 h3
  subst h1 h2 h3
  have hle : len <= m := by rw [hmm]; split <;> omega
  rw [co_P] at hx
  obtain ⟨f, hf⟩ := Go.Deep.choose_lt (α := Pt) (n := len) (p := fun i p => w.cells? base (a'.add (i * 6)) 6 = some p.c) (fun i hi => by
   obtain ⟨cs', h1, h2⟩ := hx i (by omega)
   obtain ⟨p, rfl⟩ := trod_P h2
   exact ⟨p, h1⟩)
  refine ⟨(List.range len).map f, some a', cap, by simp, by simpa using hl, hm, fun i x hx => ?_⟩
  obtain ⟨hi, rfl⟩ := getD_range f hx
  refine ⟨a', rfl, fun j u hu => ?_⟩
  obtain ⟨_, h2, h3⟩ := World.cells?_some (hf i hi)
  have hj : j < 6 := by
   have := (List.getElem?_eq_some_iff.1 hu).1
   exact this
  have := h3 j hj
  rw [Go.Deep.add_add] at this
  exact this.trans hu
end
end Go.Proofs.YtfdealobplcboaaGreat.Sx

set_option linter.unusedVariables false
set_option linter.unusedSimpArgs false
set_option maxRecDepth 100000
namespace Go.Proofs.YtfdealobplcboaaGreat.Sx
open Go.ChangeShapes Go.WideShapes Go.ChangeAt Go.RowKit
section
variable {H : Type} {enc : TypeId × Value -> H} {w : World} {base : Nat} {spare : Nat -> Bool} {held : Bool}
/-- A byte. -/
theorem open_U {r : Reach} {b0 : Nat} {v : Value} {d : DataW H} {ps : List MemPlace} (hv : Value.okWide Tryz.prog w r b0 5 v) (hd : DataW.Trod enc Tryz.prog w base spare held 5 v d ps) :
  ∃ n : Int, v = .int .u8 n /\ 0 <= n /\ n < 256 := by
 obtain ⟨n, h, _, _, hw⟩ := open_int Tryz.underlying5 hv hd
 refine ⟨n, h, ?_⟩
 have e1 : IntKind.u8.min = 0 := rfl
 have e2 : IntKind.u8.max = 255 := rfl
 simp [Lit.wf] at hw
 omega
end
end Go.Proofs.YtfdealobplcboaaGreat.Sx

set_option linter.unusedVariables false
set_option linter.unusedSimpArgs false
namespace Go.Proofs.YtfdealobplcboaaGreat.Sx
open Go.RowKit Go.Proofs.YtfdealobplcboaaGreatW.PrintWords
abbrev ti3 : TI := { kind := 5, sz := 1, zero := [.int .i64 0], flds := [], elem := 0, ik := .i64, eq := false, len := 0, bytes := 8, cd := some (cInt .i64) }
abbrev ti4 : TI := { kind := 6, sz := 1, zero := [.bool false], flds := [], elem := 0, ik := .i64, eq := false, len := 0, bytes := 1, cd := some cBool }
abbrev ti9 : TI := { kind := 4, sz := 1, zero := [.string ⟨#[]⟩], flds := [], elem := 0, ik := .i64, eq := false, len := 0, bytes := 16, cd := some cStr }
abbrev ti5 : TI := { kind := 5, sz := 1, zero := [.int .u8 0], flds := [], elem := 0, ik := .u8, eq := false, len := 0, bytes := 1, cd := some (cInt .u8) }
abbrev ti168 : TI := { kind := 5, sz := 1, zero := [.int .u64 0], flds := [], elem := 0, ik := .u64, eq := false, len := 0, bytes := 8, cd := some (cInt .u64) }
abbrev ti169 : TI := { kind := 5, sz := 1, zero := [.int .u32 0], flds := [], elem := 0, ik := .u32, eq := false, len := 0, bytes := 4, cd := some (cInt .u32) }
abbrev ti33 : TI := { kind := 5, sz := 1, zero := [.int .i64 0], flds := [], elem := 0, ik := .i64, eq := false, len := 0, bytes := 8, cd := some (cInt .i64) }
abbrev ti23 : TI := { kind := 1, sz := 3, zero := [.bool false, .string ⟨#[]⟩, .string ⟨#[]⟩], flds := [(0, 1, false), (1, 1, false), (2, 1, false)], elem := 0, ik := .i64, eq := true, len := 0, bytes := 40, cd := some cR }
abbrev ti101 : TI := { kind := 1, sz := 2, zero := [.bool false, .string ⟨#[]⟩], flds := [(0, 1, false), (1, 1, false)], elem := 0, ik := .i64, eq := true, len := 0, bytes := 24, cd := some cZ }
abbrev ti103 : TI := { kind := 1, sz := 4, zero := [.bool false, .string ⟨#[]⟩, .bool false, .string ⟨#[]⟩], flds := [(0, 2, true), (2, 2, true)], elem := 0, ik := .i64, eq := true, len := 0, bytes := 48, cd := none }
abbrev ti25 : TI := { kind := 1, sz := 6, zero := [.bool false, .string ⟨#[]⟩, .string ⟨#[]⟩, .bool false, .string ⟨#[]⟩, .string ⟨#[]⟩], flds := [(0, 3, true), (3, 3, true)], elem := 0, ik := .i64, eq := true, len := 0, bytes := 80, cd := some cP }
abbrev ti27 : TI := { kind := 1, sz := 12, zero := [.bool false, .string ⟨#[]⟩, .string ⟨#[]⟩, .bool false, .string ⟨#[]⟩, .string ⟨#[]⟩, .bool false, .string ⟨#[]⟩, .string ⟨#[]⟩, .bool false, .string ⟨#[]⟩, .string ⟨#[]⟩], flds := [(0, 6, true), (6, 6, true)], elem := 0, ik := .i64, eq := true, len := 0, bytes := 160, cd := some cS }
abbrev ti55 : TI := { kind := 1, sz := 12, zero := [.bool false, .string ⟨#[]⟩, .string ⟨#[]⟩, .bool false, .string ⟨#[]⟩, .string ⟨#[]⟩, .bool false, .string ⟨#[]⟩, .string ⟨#[]⟩, .bool false, .string ⟨#[]⟩, .string ⟨#[]⟩], flds := [(0, 6, true), (6, 6, true)], elem := 0, ik := .i64, eq := true, len := 0, bytes := 160, cd := none }
abbrev ti36 : TI := { kind := 3, sz := 1, zero := [.slice none 0 0], flds := [], elem := 25, ik := .i64, eq := false, len := 0, bytes := 24, cd := none }
abbrev ti132 : TI := { kind := 3, sz := 1, zero := [.slice none 0 0], flds := [], elem := 23, ik := .i64, eq := false, len := 0, bytes := 24, cd := none }
abbrev ti78 : TI := { kind := 3, sz := 1, zero := [.slice none 0 0], flds := [], elem := 27, ik := .i64, eq := false, len := 0, bytes := 24, cd := none }
abbrev ti124 : TI := { kind := 3, sz := 1, zero := [.slice none 0 0], flds := [], elem := 36, ik := .i64, eq := false, len := 0, bytes := 24, cd := none }
abbrev ti208 : TI := { kind := 3, sz := 1, zero := [.slice none 0 0], flds := [], elem := 3, ik := .i64, eq := false, len := 0, bytes := 24, cd := none }
abbrev ti147 : TI := { kind := 3, sz := 1, zero := [.slice none 0 0], flds := [], elem := 169, ik := .i64, eq := false, len := 0, bytes := 24, cd := none }
abbrev ti171 : TI := { kind := 3, sz := 1, zero := [.slice none 0 0], flds := [], elem := 5, ik := .i64, eq := false, len := 0, bytes := 24, cd := none }
abbrev ti187 : TI := { kind := 2, sz := 8, zero := [.int .u8 0, .int .u8 0, .int .u8 0, .int .u8 0, .int .u8 0, .int .u8 0, .int .u8 0, .int .u8 0], flds := [], elem := 5, ik := .i64, eq := false, len := 8, bytes := 8, cd := none }
abbrev ti113 : TI := { kind := 0, sz := 1, zero := [.nilFunc], flds := [], elem := 0, ik := .i64, eq := false, len := 0, bytes := 8, cd := none }
abbrev ti114 : TI := { kind := 2, sz := 4, zero := [.nilFunc, .nilFunc, .nilFunc, .nilFunc], flds := [], elem := 113, ik := .i64, eq := false, len := 4, bytes := 32, cd := none }
theorem shape_bool_string_string (l : List Value) (h0 : shape [.bool false, .string ⟨#[]⟩, .string ⟨#[]⟩] l = true) : ∃ (a0 : Bool) (a1 : ByteArray) (a2 : ByteArray), l = [.bool a0, .string a1, .string a2] := by
 obtain ⟨a0, l0, rfl, h1⟩ := shape_bool h0
 obtain ⟨a1, l1, rfl, h2⟩ := shape_string h1
 obtain ⟨a2, l2, rfl, h3⟩ := shape_string h2
 obtain rfl := shape_nil h3
 exact ⟨a0, a1, a2, rfl⟩
theorem shape_bool_string (l : List Value) (h0 : shape [.bool false, .string ⟨#[]⟩] l = true) : ∃ (a0 : Bool) (a1 : ByteArray), l = [.bool a0, .string a1] := by
 obtain ⟨a0, l0, rfl, h1⟩ := shape_bool h0
 obtain ⟨a1, l1, rfl, h2⟩ := shape_string h1
 obtain rfl := shape_nil h2
 exact ⟨a0, a1, rfl⟩
theorem shape_bool_string_bool_string (l : List Value) (h0 : shape [.bool false, .string ⟨#[]⟩, .bool false, .string ⟨#[]⟩] l = true) : ∃ (a0 : Bool) (a1 : ByteArray) (a2 : Bool) (a3 : ByteArray), l = [.bool a0, .string a1, .bool a2, .string a3] := by
 obtain ⟨a0, l0, rfl, h1⟩ := shape_bool h0
 obtain ⟨a1, l1, rfl, h2⟩ := shape_string h1
 obtain ⟨a2, l2, rfl, h3⟩ := shape_bool h2
 obtain ⟨a3, l3, rfl, h4⟩ := shape_string h3
 obtain rfl := shape_nil h4
 exact ⟨a0, a1, a2, a3, rfl⟩
theorem shape_bool_string_string_bool_string_string (l : List Value) (h0 : shape [.bool false, .string ⟨#[]⟩, .string ⟨#[]⟩, .bool false, .string ⟨#[]⟩, .string ⟨#[]⟩] l = true) : ∃ (a0 : Bool) (a1 : ByteArray) (a2 : ByteArray) (a3 : Bool) (a4 : ByteArray) (a5 : ByteArray), l = [.bool a0, .string a1, .string a2, .bool a3, .string a4, .string a5] := by
 obtain ⟨a0, l0, rfl, h1⟩ := shape_bool h0
 obtain ⟨a1, l1, rfl, h2⟩ := shape_string h1
 obtain ⟨a2, l2, rfl, h3⟩ := shape_string h2
 obtain ⟨a3, l3, rfl, h4⟩ := shape_bool h3
 obtain ⟨a4, l4, rfl, h5⟩ := shape_string h4
 obtain ⟨a5, l5, rfl, h6⟩ := shape_string h5
 obtain rfl := shape_nil h6
 exact ⟨a0, a1, a2, a3, a4, a5, rfl⟩
theorem shape_bool_string_string_bool_string_string_bool_string_string_bool_string_string (l : List Value) (h0 : shape [.bool false, .string ⟨#[]⟩, .string ⟨#[]⟩, .bool false, .string ⟨#[]⟩, .string ⟨#[]⟩, .bool false, .string ⟨#[]⟩, .string ⟨#[]⟩, .bool false, .string ⟨#[]⟩, .string ⟨#[]⟩] l = true) : ∃ (a0 : Bool) (a1 : ByteArray) (a2 : ByteArray) (a3 : Bool) (a4 : ByteArray) (a5 : ByteArray) (a6 : Bool) (a7 : ByteArray) (a8 : ByteArray) (a9 : Bool) (a10 : ByteArray) (a11 : ByteArray), l = [.bool a0, .string a1, .string a2, .bool a3, .string a4, .string a5, .bool a6, .string a7, .string a8, .bool a9, .string a10, .string a11] := by
 obtain ⟨a0, l0, rfl, h1⟩ := shape_bool h0
 obtain ⟨a1, l1, rfl, h2⟩ := shape_string h1
 obtain ⟨a2, l2, rfl, h3⟩ := shape_string h2
 obtain ⟨a3, l3, rfl, h4⟩ := shape_bool h3
 obtain ⟨a4, l4, rfl, h5⟩ := shape_string h4
 obtain ⟨a5, l5, rfl, h6⟩ := shape_string h5
 obtain ⟨a6, l6, rfl, h7⟩ := shape_bool h6
 obtain ⟨a7, l7, rfl, h8⟩ := shape_string h7
 obtain ⟨a8, l8, rfl, h9⟩ := shape_string h8
 obtain ⟨a9, l9, rfl, h10⟩ := shape_bool h9
 obtain ⟨a10, l10, rfl, h11⟩ := shape_string h10
 obtain ⟨a11, l11, rfl, h12⟩ := shape_string h11
 obtain rfl := shape_nil h12
 exact ⟨a0, a1, a2, a3, a4, a5, a6, a7, a8, a9, a10, a11, rfl⟩
theorem eqA23 (d : Nat) (w : World) (x0 y0 : Bool) (x1 y1 : ByteArray) (x2 y2 : ByteArray) :
  (Op.equalIn (d + 2) 23 (.agg #[.bool x0, .string x1, .string x2]) (.agg #[.bool y0, .string y1, .string y2])).run Tryz.prog w = .ok (x0 == y0 && (x1.toList == y1.toList && (x2.toList == y2.toList))) w := by
 refine eqA_of Tryz.underlying23 (by kernel_rfl) ?_
 refine eqf_cons (by rfl) (by go_simp; rfl) (by go_simp; rfl) (by go_simp) ?_
 refine eqf_cons (by rfl) (by go_simp; rfl) (by go_simp; rfl) (by go_simp) ?_
 exact eqf_last (by rfl) (by go_simp; rfl) (by go_simp; rfl) (by go_simp)
theorem eqT23 (xs ys : Array Value) (w : World) (x y : Operand) (hx : shape ti23.zero xs.toList = true) (hy : shape ti23.zero ys.toList = true) :
  (do eqGuard .eql 23 x y (.agg xs) (.agg ys); binOp .eql 23 (.agg xs) (.agg ys)).run Tryz.prog w = .ok (.bool (eqCells xs.toList ys.toList)) w /\
  (do eqGuard .neq 23 x y (.agg xs) (.agg ys); binOp .neq 23 (.agg xs) (.agg ys)).run Tryz.prog w = .ok (.bool (!eqCells xs.toList ys.toList)) w := by
 obtain ⟨a0, a1, a2, hxs⟩ := shape_bool_string_string xs.toList hx
 obtain ⟨b0, b1, b2, hys⟩ := shape_bool_string_string ys.toList hy
 obtain rfl : xs = #[.bool a0, .string a1, .string a2] := Array.ext' hxs
 obtain rfl : ys = #[.bool b0, .string b1, .string b2] := Array.ext' hys
 have hg : ∀ op, (eqGuard op 23 x y (.agg #[.bool a0, .string a1, .string a2]) (.agg #[.bool b0, .string b1, .string b2])).run Tryz.prog w = .ok () w := fun op => eqGuard_agg (by kernel_rfl) op x y _ _ w
 have he := eqA23 9998 w a0 b0 a1 b1 a2 b2
 exact eq_both hg he (by simp only [eqCells, Bool.and_assoc, Bool.and_true])
theorem eqA101 (d : Nat) (w : World) (x0 y0 : Bool) (x1 y1 : ByteArray) :
  (Op.equalIn (d + 2) 101 (.agg #[.bool x0, .string x1]) (.agg #[.bool y0, .string y1])).run Tryz.prog w = .ok (x0 == y0 && (x1.toList == y1.toList)) w := by
 refine eqA_of Tryz.underlying101 (by kernel_rfl) ?_
 refine eqf_cons (by rfl) (by go_simp; rfl) (by go_simp; rfl) (by go_simp) ?_
 exact eqf_last (by rfl) (by go_simp; rfl) (by go_simp; rfl) (by go_simp)
theorem eqT101 (xs ys : Array Value) (w : World) (x y : Operand) (hx : shape ti101.zero xs.toList = true) (hy : shape ti101.zero ys.toList = true) :
  (do eqGuard .eql 101 x y (.agg xs) (.agg ys); binOp .eql 101 (.agg xs) (.agg ys)).run Tryz.prog w = .ok (.bool (eqCells xs.toList ys.toList)) w /\
  (do eqGuard .neq 101 x y (.agg xs) (.agg ys); binOp .neq 101 (.agg xs) (.agg ys)).run Tryz.prog w = .ok (.bool (!eqCells xs.toList ys.toList)) w := by
 obtain ⟨a0, a1, hxs⟩ := shape_bool_string xs.toList hx
 obtain ⟨b0, b1, hys⟩ := shape_bool_string ys.toList hy
 obtain rfl : xs = #[.bool a0, .string a1] := Array.ext' hxs
 obtain rfl : ys = #[.bool b0, .string b1] := Array.ext' hys
 have hg : ∀ op, (eqGuard op 101 x y (.agg #[.bool a0, .string a1]) (.agg #[.bool b0, .string b1])).run Tryz.prog w = .ok () w := fun op => eqGuard_agg (by kernel_rfl) op x y _ _ w
 have he := eqA101 9998 w a0 b0 a1 b1
 exact eq_both hg he (by simp only [eqCells, Bool.and_assoc, Bool.and_true])
theorem eqA103 (d : Nat) (w : World) (x0 y0 : Bool) (x1 y1 : ByteArray) (x2 y2 : Bool) (x3 y3 : ByteArray) :
  (Op.equalIn (d + 3) 103 (.agg #[.bool x0, .string x1, .bool x2, .string x3]) (.agg #[.bool y0, .string y1, .bool y2, .string y3])).run Tryz.prog w = .ok ((x0 == y0 && (x1.toList == y1.toList)) && ((x2 == y2 && (x3.toList == y3.toList)))) w := by
 refine eqA_of Tryz.underlying103 (by kernel_rfl) ?_
 refine eqf_cons (by rfl) (by go_simp) (by go_simp) (eqA101 (d + 0) w _ _ _ _) ?_
 exact eqf_last (by rfl) (by go_simp) (by go_simp) (eqA101 (d + 0) w _ _ _ _)
theorem eqT103 (xs ys : Array Value) (w : World) (x y : Operand) (hx : shape ti103.zero xs.toList = true) (hy : shape ti103.zero ys.toList = true) :
  (do eqGuard .eql 103 x y (.agg xs) (.agg ys); binOp .eql 103 (.agg xs) (.agg ys)).run Tryz.prog w = .ok (.bool (eqCells xs.toList ys.toList)) w /\
  (do eqGuard .neq 103 x y (.agg xs) (.agg ys); binOp .neq 103 (.agg xs) (.agg ys)).run Tryz.prog w = .ok (.bool (!eqCells xs.toList ys.toList)) w := by
 obtain ⟨a0, a1, a2, a3, hxs⟩ := shape_bool_string_bool_string xs.toList hx
 obtain ⟨b0, b1, b2, b3, hys⟩ := shape_bool_string_bool_string ys.toList hy
 obtain rfl : xs = #[.bool a0, .string a1, .bool a2, .string a3] := Array.ext' hxs
 obtain rfl : ys = #[.bool b0, .string b1, .bool b2, .string b3] := Array.ext' hys
 have hg : ∀ op, (eqGuard op 103 x y (.agg #[.bool a0, .string a1, .bool a2, .string a3]) (.agg #[.bool b0, .string b1, .bool b2, .string b3])).run Tryz.prog w = .ok () w := fun op => eqGuard_agg (by kernel_rfl) op x y _ _ w
 have he := eqA103 9997 w a0 b0 a1 b1 a2 b2 a3 b3
 exact eq_both hg he (by simp only [eqCells, Bool.and_assoc, Bool.and_true])
theorem eqA25 (d : Nat) (w : World) (x0 y0 : Bool) (x1 y1 : ByteArray) (x2 y2 : ByteArray) (x3 y3 : Bool) (x4 y4 : ByteArray) (x5 y5 : ByteArray) :
  (Op.equalIn (d + 3) 25 (.agg #[.bool x0, .string x1, .string x2, .bool x3, .string x4, .string x5]) (.agg #[.bool y0, .string y1, .string y2, .bool y3, .string y4, .string y5])).run Tryz.prog w = .ok ((x0 == y0 && (x1.toList == y1.toList && (x2.toList == y2.toList))) && ((x3 == y3 && (x4.toList == y4.toList && (x5.toList == y5.toList))))) w := by
 refine eqA_of Tryz.underlying25 (by kernel_rfl) ?_
 refine eqf_cons (by rfl) (by go_simp) (by go_simp) (eqA23 (d + 0) w _ _ _ _ _ _) ?_
 exact eqf_last (by rfl) (by go_simp) (by go_simp) (eqA23 (d + 0) w _ _ _ _ _ _)
theorem eqT25 (xs ys : Array Value) (w : World) (x y : Operand) (hx : shape ti25.zero xs.toList = true) (hy : shape ti25.zero ys.toList = true) :
  (do eqGuard .eql 25 x y (.agg xs) (.agg ys); binOp .eql 25 (.agg xs) (.agg ys)).run Tryz.prog w = .ok (.bool (eqCells xs.toList ys.toList)) w /\
  (do eqGuard .neq 25 x y (.agg xs) (.agg ys); binOp .neq 25 (.agg xs) (.agg ys)).run Tryz.prog w = .ok (.bool (!eqCells xs.toList ys.toList)) w := by
 obtain ⟨a0, a1, a2, a3, a4, a5, hxs⟩ := shape_bool_string_string_bool_string_string xs.toList hx
 obtain ⟨b0, b1, b2, b3, b4, b5, hys⟩ := shape_bool_string_string_bool_string_string ys.toList hy
 obtain rfl : xs = #[.bool a0, .string a1, .string a2, .bool a3, .string a4, .string a5] := Array.ext' hxs
 obtain rfl : ys = #[.bool b0, .string b1, .string b2, .bool b3, .string b4, .string b5] := Array.ext' hys
 have hg : ∀ op, (eqGuard op 25 x y (.agg #[.bool a0, .string a1, .string a2, .bool a3, .string a4, .string a5]) (.agg #[.bool b0, .string b1, .string b2, .bool b3, .string b4, .string b5])).run Tryz.prog w = .ok () w := fun op => eqGuard_agg (by kernel_rfl) op x y _ _ w
 have he := eqA25 9997 w a0 b0 a1 b1 a2 b2 a3 b3 a4 b4 a5 b5
 exact eq_both hg he (by simp only [eqCells, Bool.and_assoc, Bool.and_true])
theorem eqA27 (d : Nat) (w : World) (x0 y0 : Bool) (x1 y1 : ByteArray) (x2 y2 : ByteArray) (x3 y3 : Bool) (x4 y4 : ByteArray) (x5 y5 : ByteArray) (x6 y6 : Bool) (x7 y7 : ByteArray) (x8 y8 : ByteArray) (x9 y9 : Bool) (x10 y10 : ByteArray) (x11 y11 : ByteArray) :
  (Op.equalIn (d + 4) 27 (.agg #[.bool x0, .string x1, .string x2, .bool x3, .string x4, .string x5, .bool x6, .string x7, .string x8, .bool x9, .string x10, .string x11]) (.agg #[.bool y0, .string y1, .string y2, .bool y3, .string y4, .string y5, .bool y6, .string y7, .string y8, .bool y9, .string y10, .string y11])).run Tryz.prog w = .ok (((x0 == y0 && (x1.toList == y1.toList && (x2.toList == y2.toList))) && ((x3 == y3 && (x4.toList == y4.toList && (x5.toList == y5.toList))))) && (((x6 == y6 && (x7.toList == y7.toList && (x8.toList == y8.toList))) && ((x9 == y9 && (x10.toList == y10.toList && (x11.toList == y11.toList))))))) w := by
 refine eqA_of Tryz.underlying27 (by kernel_rfl) ?_
 refine eqf_cons (by rfl) (by go_simp) (by go_simp) (eqA25 (d + 0) w _ _ _ _ _ _ _ _ _ _ _ _) ?_
 exact eqf_last (by rfl) (by go_simp) (by go_simp) (eqA25 (d + 0) w _ _ _ _ _ _ _ _ _ _ _ _)
theorem eqT27 (xs ys : Array Value) (w : World) (x y : Operand) (hx : shape ti27.zero xs.toList = true) (hy : shape ti27.zero ys.toList = true) :
  (do eqGuard .eql 27 x y (.agg xs) (.agg ys); binOp .eql 27 (.agg xs) (.agg ys)).run Tryz.prog w = .ok (.bool (eqCells xs.toList ys.toList)) w /\
  (do eqGuard .neq 27 x y (.agg xs) (.agg ys); binOp .neq 27 (.agg xs) (.agg ys)).run Tryz.prog w = .ok (.bool (!eqCells xs.toList ys.toList)) w := by
 obtain ⟨a0, a1, a2, a3, a4, a5, a6, a7, a8, a9, a10, a11, hxs⟩ := shape_bool_string_string_bool_string_string_bool_string_string_bool_string_string xs.toList hx
 obtain ⟨b0, b1, b2, b3, b4, b5, b6, b7, b8, b9, b10, b11, hys⟩ := shape_bool_string_string_bool_string_string_bool_string_string_bool_string_string ys.toList hy
 obtain rfl : xs = #[.bool a0, .string a1, .string a2, .bool a3, .string a4, .string a5, .bool a6, .string a7, .string a8, .bool a9, .string a10, .string a11] := Array.ext' hxs
 obtain rfl : ys = #[.bool b0, .string b1, .string b2, .bool b3, .string b4, .string b5, .bool b6, .string b7, .string b8, .bool b9, .string b10, .string b11] := Array.ext' hys
 have hg : ∀ op, (eqGuard op 27 x y (.agg #[.bool a0, .string a1, .string a2, .bool a3, .string a4, .string a5, .bool a6, .string a7, .string a8, .bool a9, .string a10, .string a11]) (.agg #[.bool b0, .string b1, .string b2, .bool b3, .string b4, .string b5, .bool b6, .string b7, .string b8, .bool b9, .string b10, .string b11])).run Tryz.prog w = .ok () w := fun op => eqGuard_agg (by kernel_rfl) op x y _ _ w
 have he := eqA27 9996 w a0 b0 a1 b1 a2 b2 a3 b3 a4 b4 a5 b5 a6 b6 a7 b7 a8 b8 a9 b9 a10 b10 a11 b11
 exact eq_both hg he (by simp only [eqCells, Bool.and_assoc, Bool.and_true])
theorem eqA55 (d : Nat) (w : World) (x0 y0 : Bool) (x1 y1 : ByteArray) (x2 y2 : ByteArray) (x3 y3 : Bool) (x4 y4 : ByteArray) (x5 y5 : ByteArray) (x6 y6 : Bool) (x7 y7 : ByteArray) (x8 y8 : ByteArray) (x9 y9 : Bool) (x10 y10 : ByteArray) (x11 y11 : ByteArray) :
  (Op.equalIn (d + 4) 55 (.agg #[.bool x0, .string x1, .string x2, .bool x3, .string x4, .string x5, .bool x6, .string x7, .string x8, .bool x9, .string x10, .string x11]) (.agg #[.bool y0, .string y1, .string y2, .bool y3, .string y4, .string y5, .bool y6, .string y7, .string y8, .bool y9, .string y10, .string y11])).run Tryz.prog w = .ok (((x0 == y0 && (x1.toList == y1.toList && (x2.toList == y2.toList))) && ((x3 == y3 && (x4.toList == y4.toList && (x5.toList == y5.toList))))) && (((x6 == y6 && (x7.toList == y7.toList && (x8.toList == y8.toList))) && ((x9 == y9 && (x10.toList == y10.toList && (x11.toList == y11.toList))))))) w := by
 refine eqA_of Tryz.underlying55 (by kernel_rfl) ?_
 refine eqf_cons (by rfl) (by go_simp) (by go_simp) (eqA25 (d + 0) w _ _ _ _ _ _ _ _ _ _ _ _) ?_
 exact eqf_last (by rfl) (by go_simp) (by go_simp) (eqA25 (d + 0) w _ _ _ _ _ _ _ _ _ _ _ _)
theorem eqT55 (xs ys : Array Value) (w : World) (x y : Operand) (hx : shape ti55.zero xs.toList = true) (hy : shape ti55.zero ys.toList = true) :
  (do eqGuard .eql 55 x y (.agg xs) (.agg ys); binOp .eql 55 (.agg xs) (.agg ys)).run Tryz.prog w = .ok (.bool (eqCells xs.toList ys.toList)) w /\
  (do eqGuard .neq 55 x y (.agg xs) (.agg ys); binOp .neq 55 (.agg xs) (.agg ys)).run Tryz.prog w = .ok (.bool (!eqCells xs.toList ys.toList)) w := by
 obtain ⟨a0, a1, a2, a3, a4, a5, a6, a7, a8, a9, a10, a11, hxs⟩ := shape_bool_string_string_bool_string_string_bool_string_string_bool_string_string xs.toList hx
 obtain ⟨b0, b1, b2, b3, b4, b5, b6, b7, b8, b9, b10, b11, hys⟩ := shape_bool_string_string_bool_string_string_bool_string_string_bool_string_string ys.toList hy
 obtain rfl : xs = #[.bool a0, .string a1, .string a2, .bool a3, .string a4, .string a5, .bool a6, .string a7, .string a8, .bool a9, .string a10, .string a11] := Array.ext' hxs
 obtain rfl : ys = #[.bool b0, .string b1, .string b2, .bool b3, .string b4, .string b5, .bool b6, .string b7, .string b8, .bool b9, .string b10, .string b11] := Array.ext' hys
 have hg : ∀ op, (eqGuard op 55 x y (.agg #[.bool a0, .string a1, .string a2, .bool a3, .string a4, .string a5, .bool a6, .string a7, .string a8, .bool a9, .string a10, .string a11]) (.agg #[.bool b0, .string b1, .string b2, .bool b3, .string b4, .string b5, .bool b6, .string b7, .string b8, .bool b9, .string b10, .string b11])).run Tryz.prog w = .ok () w := fun op => eqGuard_agg (by kernel_rfl) op x y _ _ w
 have he := eqA55 9996 w a0 b0 a1 b1 a2 b2 a3 b3 a4 b4 a5 b5 a6 b6 a7 b7 a8 b8 a9 b9 a10 b10 a11 b11
 exact eq_both hg he (by simp only [eqCells, Bool.and_assoc, Bool.and_true])
theorem ty3 : TyOk Tryz.prog 3 ti3 := ⟨by kernel_rfl, by kernel_rfl, (fun _ => ⟨_, rfl, rfl⟩), rfl, (fun _ h => by injection h with h; subst h; exact ⟨cInt_ok _, rfl, rfl⟩), (fun h => by cases h)⟩
theorem ty4 : TyOk Tryz.prog 4 ti4 := ⟨by kernel_rfl, by kernel_rfl, (fun _ => ⟨_, rfl, rfl⟩), rfl, (fun _ h => by injection h with h; subst h; exact ⟨cBool_ok, rfl, rfl⟩), (fun h => by cases h)⟩
theorem ty9 : TyOk Tryz.prog 9 ti9 := ⟨by kernel_rfl, by kernel_rfl, (fun _ => ⟨_, rfl, rfl⟩), rfl, (fun _ h => by injection h with h; subst h; exact ⟨cStr_ok, rfl, rfl⟩), (fun h => by cases h)⟩
theorem ty5 : TyOk Tryz.prog 5 ti5 := ⟨by kernel_rfl, by kernel_rfl, (fun _ => ⟨_, rfl, rfl⟩), rfl, (fun _ h => by injection h with h; subst h; exact ⟨cInt_ok _, rfl, rfl⟩), (fun h => by cases h)⟩
theorem ty168 : TyOk Tryz.prog 168 ti168 := ⟨by kernel_rfl, by kernel_rfl, (fun _ => ⟨_, rfl, rfl⟩), rfl, (fun _ h => by injection h with h; subst h; exact ⟨cInt_ok _, rfl, rfl⟩), (fun h => by cases h)⟩
theorem ty169 : TyOk Tryz.prog 169 ti169 := ⟨by kernel_rfl, by kernel_rfl, (fun _ => ⟨_, rfl, rfl⟩), rfl, (fun _ h => by injection h with h; subst h; exact ⟨cInt_ok _, rfl, rfl⟩), (fun h => by cases h)⟩
theorem ty33 : TyOk Tryz.prog 33 ti33 := ⟨by kernel_rfl, by kernel_rfl, (fun _ => ⟨_, rfl, rfl⟩), rfl, (fun _ h => by injection h with h; subst h; exact ⟨cInt_ok _, rfl, rfl⟩), (fun h => by cases h)⟩
theorem ty23 : TyOk Tryz.prog 23 ti23 := ⟨by kernel_rfl, by kernel_rfl, (fun h => by cases h), rfl, (fun _ h => by injection h with h; subst h; exact ⟨cR_ok, rfl, rfl⟩), (fun _ => ⟨rfl, eqT23⟩)⟩
theorem ty101 : TyOk Tryz.prog 101 ti101 := ⟨by kernel_rfl, by kernel_rfl, (fun h => by cases h), rfl, (fun _ h => by injection h with h; subst h; exact ⟨cZ_ok, rfl, rfl⟩), (fun _ => ⟨rfl, eqT101⟩)⟩
theorem ty103 : TyOk Tryz.prog 103 ti103 := ⟨by kernel_rfl, by kernel_rfl, (fun h => by cases h), rfl, (fun _ h => by cases h), (fun _ => ⟨rfl, eqT103⟩)⟩
theorem ty25 : TyOk Tryz.prog 25 ti25 := ⟨by kernel_rfl, by kernel_rfl, (fun h => by cases h), rfl, (fun _ h => by injection h with h; subst h; exact ⟨cP_ok, rfl, rfl⟩), (fun _ => ⟨rfl, eqT25⟩)⟩
theorem ty27 : TyOk Tryz.prog 27 ti27 := ⟨by kernel_rfl, by kernel_rfl, (fun h => by cases h), rfl, (fun _ h => by injection h with h; subst h; exact ⟨cS_ok, rfl, rfl⟩), (fun _ => ⟨rfl, eqT27⟩)⟩
theorem ty55 : TyOk Tryz.prog 55 ti55 := ⟨by kernel_rfl, by kernel_rfl, (fun h => by cases h), rfl, (fun _ h => by cases h), (fun _ => ⟨rfl, eqT55⟩)⟩
theorem ty36 : TyOk Tryz.prog 36 ti36 := ⟨by kernel_rfl, by kernel_rfl, (fun _ => ⟨_, rfl, rfl⟩), rfl, (fun _ h => by cases h), (fun h => by cases h)⟩
theorem ty132 : TyOk Tryz.prog 132 ti132 := ⟨by kernel_rfl, by kernel_rfl, (fun _ => ⟨_, rfl, rfl⟩), rfl, (fun _ h => by cases h), (fun h => by cases h)⟩
theorem ty78 : TyOk Tryz.prog 78 ti78 := ⟨by kernel_rfl, by kernel_rfl, (fun _ => ⟨_, rfl, rfl⟩), rfl, (fun _ h => by cases h), (fun h => by cases h)⟩
theorem ty124 : TyOk Tryz.prog 124 ti124 := ⟨by kernel_rfl, by kernel_rfl, (fun _ => ⟨_, rfl, rfl⟩), rfl, (fun _ h => by cases h), (fun h => by cases h)⟩
theorem ty208 : TyOk Tryz.prog 208 ti208 := ⟨by kernel_rfl, by kernel_rfl, (fun _ => ⟨_, rfl, rfl⟩), rfl, (fun _ h => by cases h), (fun h => by cases h)⟩
theorem ty147 : TyOk Tryz.prog 147 ti147 := ⟨by kernel_rfl, by kernel_rfl, (fun _ => ⟨_, rfl, rfl⟩), rfl, (fun _ h => by cases h), (fun h => by cases h)⟩
theorem ty171 : TyOk Tryz.prog 171 ti171 := ⟨by kernel_rfl, by kernel_rfl, (fun _ => ⟨_, rfl, rfl⟩), rfl, (fun _ h => by cases h), (fun h => by cases h)⟩
theorem ty187 : TyOk Tryz.prog 187 ti187 := ⟨by kernel_rfl, by kernel_rfl, (fun h => by cases h), rfl, (fun _ h => by cases h), (fun h => by cases h)⟩
theorem ty113 : TyOk Tryz.prog 113 ti113 := ⟨by kernel_rfl, by kernel_rfl, (fun _ => ⟨_, rfl, rfl⟩), rfl, (fun _ h => by cases h), (fun h => by cases h)⟩
theorem ty114 : TyOk Tryz.prog 114 ti114 := ⟨by kernel_rfl, by kernel_rfl, (fun h => by cases h), rfl, (fun _ h => by cases h), (fun h => by cases h)⟩
def tt : Tab := [(3, ti3), (4, ti4), (9, ti9), (5, ti5), (168, ti168), (169, ti169), (33, ti33), (23, ti23), (101, ti101), (103, ti103), (25, ti25), (27, ti27), (55, ti55), (36, ti36), (132, ti132), (78, ti78), (124, ti124), (208, ti208), (147, ti147), (171, ti171), (187, ti187), (113, ti113), (114, ti114)]
theorem ttOk : TabOk Tryz.prog tt := .cons ty3 (.cons ty4 (.cons ty9 (.cons ty5 (.cons ty168 (.cons ty169 (.cons ty33 (.cons ty23 (.cons ty101 (.cons ty103 (.cons ty25 (.cons ty27 (.cons ty55 (.cons ty36 (.cons ty132 (.cons ty78 (.cons ty124 (.cons ty208 (.cons ty147 (.cons ty171 (.cons ty187 (.cons ty113 (.cons ty114 (.nil _)))))))))))))))))))))))
theorem mixed : Tryz.prog.follows .mixedOrders = true := by kernel_rfl
end Go.Proofs.YtfdealobplcboaaGreat.Sx

set_option linter.unusedVariables false
set_option linter.unusedSimpArgs false
namespace Go.Proofs.YtfdealobplcboaaGreat.Sx
/-- The value of a row of limbs, the least one first. -/
def val : List Int -> Int
 | [] => 0
 | x :: xs => x + 4294967296 * val xs
def Ok32 (xs : List Int) : Prop := ∀ x ∈ xs, 0 <= x /\ x < 4294967296
/-- The row of a number, without zeros at its end. -/
def lb (n : Nat) : List Int :=
 if h : n = 0 then [] else ((n % 4294967296 : Nat) : Int) :: lb (n / 4294967296)
 termination_by n
 decreasing_by omega
/-- k limbs of a number. -/
def fixl : Nat -> Nat -> List Int
 | 0, _ => []
 | k + 1, n => ((n % 4294967296 : Nat) : Int) :: fixl k (n / 4294967296)
/-- The length without zeros at the end. -/
def tlen : List Int -> Nat
 | [] => 0
 | x :: xs => if tlen xs = 0 then (if x = 0 then 0 else 1) else tlen xs + 1
theorem lb_zero : lb 0 = [] := by rw [lb]; simp
theorem lb_pos {n : Nat} (h : n ≠ 0) : lb n = ((n % 4294967296 : Nat) : Int) :: lb (n / 4294967296) := by rw [lb]; simp [h]
theorem Ok32.nil : Ok32 [] := fun _ h => by cases h
theorem Ok32.cons {x : Int} {xs : List Int} (h0 : 0 <= x) (h1 : x < 4294967296) (h : Ok32 xs) : Ok32 (x :: xs) := by
 intro y hy
 rcases List.mem_cons.1 hy with rfl | hy
 ·exact ⟨h0, h1⟩
 ·exact h y hy
theorem Ok32.tail {x : Int} {xs : List Int} (h : Ok32 (x :: xs)) : Ok32 xs := fun y hy => h y (by simp [hy])
theorem Ok32.head {x : Int} {xs : List Int} (h : Ok32 (x :: xs)) : 0 <= x /\ x < 4294967296 := h x (by simp)
theorem Ok32.get {xs : List Int} (h : Ok32 xs) (i : Nat) : 0 <= xs.getD i 0 /\ xs.getD i 0 < 4294967296 := by
 rw [List.getD_eq_getElem?_getD]
 cases e : xs[i]? with
 | none => simp
 | some x => simp; exact h x (List.mem_of_getElem? e)
theorem Ok32.set {xs : List Int} (h : Ok32 xs) {x : Int} (h0 : 0 <= x) (h1 : x < 4294967296) (i : Nat) : Ok32 (xs.set i x) := by
 intro y hy
 rcases List.mem_or_eq_of_mem_set hy with hy | rfl
 ·exact h y hy
 ·exact ⟨h0, h1⟩
theorem Ok32.append {xs ys : List Int} (h : Ok32 xs) (h' : Ok32 ys) : Ok32 (xs ++ ys) := fun y hy => (List.mem_append.1 hy).elim (h y) (h' y)
theorem Ok32.take {xs : List Int} (h : Ok32 xs) (n : Nat) : Ok32 (xs.take n) := fun y hy => h y (List.mem_of_mem_take hy)
theorem Ok32.drop {xs : List Int} (h : Ok32 xs) (n : Nat) : Ok32 (xs.drop n) := fun y hy => h y (List.mem_of_mem_drop hy)
theorem Ok32.rep (n : Nat) : Ok32 (List.replicate n 0) := fun y hy => by rw [(List.mem_replicate.1 hy).2]; decide
theorem val_nonneg : ∀ {xs : List Int}, Ok32 xs -> 0 <= val xs
 | [], _ => by simp [val]
 | x :: xs, h => by
  have := val_nonneg h.tail
  have := h.head
  simp only [val]; omega
theorem val_append : ∀ (xs ys : List Int), val (xs ++ ys) = val xs + 4294967296 ^ xs.length * val ys
 | [], ys => by simp [val]
 | x :: xs, ys => by
  simp only [List.cons_append, val, val_append xs ys, List.length_cons, Int.pow_succ]
  grind
theorem val_rep : ∀ n : Nat, val (List.replicate n 0) = 0
 | 0 => rfl
 | n + 1 => by simp [List.replicate_succ, val, val_rep n]
theorem val_lt : ∀ {xs : List Int}, Ok32 xs -> val xs < 4294967296 ^ xs.length
 | [], _ => by simp [val]
 | x :: xs, h => by
  have h1 := val_lt h.tail
  have h2 := h.head
  simp only [val, List.length_cons, Int.pow_succ]
  omega
theorem lb_ok (n : Nat) : Ok32 (lb n) := by
 induction n using Nat.strongRecOn with
 | ind n ih =>
  by_cases h : n = 0
  ·subst h; rw [lb_zero]; exact .nil
  ·rw [lb_pos h]
   exact .cons (by omega) (by omega) (ih _ (by omega))
theorem val_lb (n : Nat) : val (lb n) = n := by
 induction n using Nat.strongRecOn with
 | ind n ih =>
  by_cases h : n = 0
  ·subst h; rw [lb_zero]; rfl
  ·rw [lb_pos h, val, ih _ (by omega)]; omega
theorem fixl_ok : ∀ k n, Ok32 (fixl k n)
 | 0, _ => .nil
 | k + 1, n => .cons (by omega) (by omega) (fixl_ok k _)
theorem fixl_length : ∀ k n, (fixl k n).length = k
 | 0, _ => rfl
 | k + 1, n => by simp [fixl, fixl_length k]
/-- A row without zeros at its end is that of its value. -/
theorem take_tlen : ∀ {xs : List Int}, Ok32 xs -> xs.take (tlen xs) = lb (val xs).toNat
 | [], _ => by simp [tlen, val, lb_zero]
 | x :: xs, h => by
  have ih := take_tlen h.tail
  have hv := val_nonneg h.tail
  have hx := h.head
  simp only [tlen, val]
  by_cases ht : tlen xs = 0
  ·rw [ht] at ih
   simp only [List.take_zero] at ih
   have hz : (val xs).toNat = 0 := by
    by_cases hz : (val xs).toNat = 0
    ·exact hz
    ·rw [lb_pos hz] at ih; cases ih
   have hz' : val xs = 0 := by omega
   simp only [ht, if_true, hz', Int.mul_zero, Int.add_zero]
   by_cases h0 : x = 0
   ·simp [h0, lb_zero]
   ·rw [lb_pos (by omega)]
    have e1 : x.toNat / 4294967296 = 0 := by omega
    have e2 : ((x.toNat % 4294967296 : Nat) : Int) = x := by omega
    simp only [h0, if_false, e1, lb_zero, e2]
    rfl
  ·have hz : (val xs).toNat ≠ 0 := by
    intro hz
    rw [hz, lb_zero] at ih
    cases xs with
    | nil => exact ht rfl
    | cons y ys => cases e : tlen (y :: ys) with
     | zero => exact ht e
     | succ n => rw [e] at ih; cases ih
   rw [if_neg ht, List.take_succ_cons, ih, lb_pos (n := (x + 4294967296 * val xs).toNat) (by omega)]
   have e1 : (x + 4294967296 * val xs).toNat / 4294967296 = (val xs).toNat := by omega
   have e2 : (((x + 4294967296 * val xs).toNat % 4294967296 : Nat) : Int) = x := by omega
   rw [e1, e2]
theorem tlen_le : ∀ xs : List Int, tlen xs <= xs.length
 | [] => Nat.le_refl _
 | x :: xs => by
  have := tlen_le xs
  simp only [tlen, List.length_cons]
  split
  ·split <;> omega
  ·omega
theorem tlen_eq : ∀ {xs : List Int} {n : Nat}, n <= xs.length -> (∀ i, n <= i -> xs.getD i 0 = 0) -> (n = 0 \/ xs.getD (n - 1) 0 ≠ 0) -> tlen xs = n
 | [], n, h, _, _ => by simp at h; simp [tlen, h]
 | x :: xs, n, h, h1, h2 => by
  cases n with
  | zero =>
   have ih := tlen_eq (xs := xs) (n := 0) (Nat.zero_le _) (fun i _ => by simpa using h1 (i + 1) (by omega)) (.inl rfl)
   have hx : x = 0 := by simpa using h1 0 (Nat.le_refl _)
   simp [tlen, ih, hx]
  | succ n =>
   have h3 : xs.getD (n - 1) 0 ≠ 0 \/ n = 0 := by
    rcases h2 with h2 | h2
    ·omega
    ·by_cases hn : n = 0
     ·exact .inr hn
     ·left
      have e : n + 1 - 1 = (n - 1) + 1 := by omega
      rw [e] at h2
      simpa using h2
   have ih := tlen_eq (xs := xs) (n := n) (by simpa using h) (fun i hi => by simpa using h1 (i + 1) (by omega)) (h3.elim .inr .inl)
   simp only [tlen, ih]
   by_cases hn : n = 0
   ·subst hn
    have hx : x ≠ 0 := by
     rcases h2 with h2 | h2
     ·omega
     ·simpa using h2
    simp [hx]
   ·simp [hn]
theorem w64 {n : Int} (h0 : -9223372036854775808 <= n) (h1 : n < 9223372036854775808) : IntKind.i64.wrap n = n := by rw [IntKind.wrap_i64]; omega
theorem td (a b : Nat) : (a : Int).tdiv (b : Int) = ((a / b : Nat) : Int) := by rw [Int.tdiv_eq_ediv_of_nonneg (by omega)]; rfl
theorem tm (a b : Nat) : (a : Int).tmod (b : Int) = ((a % b : Nat) : Int) := by rw [Int.tmod_eq_emod_of_nonneg (by omega)]; rfl
theorem td4 (a : Nat) : (a : Int).tdiv 4 = ((a / 4 : Nat) : Int) := td a 4
theorem tm4 (a : Nat) : (a : Int).tmod 4 = ((a % 4 : Nat) : Int) := tm a 4
theorem wu64 {n : Int} (h0 : 0 <= n) (h1 : n < 18446744073709551616) : IntKind.u64.wrap n = n := by rw [IntKind.wrap_u64]; omega
theorem wu32 {n : Int} (h0 : 0 <= n) (h1 : n < 4294967296) : IntKind.u32.wrap n = n := by rw [IntKind.wrap_u32]; omega
theorem wu8 {n : Int} (h0 : 0 <= n) (h1 : n < 256) : IntKind.u8.wrap n = n := by rw [IntKind.wrap_u8]; omega
section
variable (k : IntKind) (a b : Int) (s t : ByteArray)
@[simp] theorem s_add : Env.std.ib .add k a b = k.wrap (a + b) := rfl
@[simp] theorem s_sub : Env.std.ib .sub k a b = k.wrap (a - b) := rfl
@[simp] theorem s_mul : Env.std.ib .mul k a b = k.wrap (a * b) := rfl
@[simp] theorem s_quo : Env.std.ib .quo k a b = k.wrap (a.tdiv b) := rfl
@[simp] theorem s_rem : Env.std.ib .rem k a b = a.tmod b := rfl
@[simp] theorem s_shl : Env.std.ib .shl k a b = k.wrap (a * 2 ^ (min b.toNat k.bits)) := rfl
@[simp] theorem s_shr : Env.std.ib .shr k a b = a.fdiv (2 ^ (min b.toNat k.bits)) := rfl
@[simp] theorem s_eql : Env.std.ic .eql a b = decide (a = b) := rfl
@[simp] theorem s_neq : Env.std.ic .neq a b = decide (a ≠ b) := by simp [Env.std]; rfl
@[simp] theorem s_lss : Env.std.ic .lss a b = decide (a < b) := rfl
@[simp] theorem s_leq : Env.std.ic .leq a b = decide (a <= b) := rfl
@[simp] theorem s_gtr : Env.std.ic .gtr a b = decide (a > b) := rfl
@[simp] theorem s_geq : Env.std.ic .geq a b = decide (a >= b) := rfl
@[simp] theorem s_bn (x : Bool) : Env.std.bn x = !x := rfl
@[simp] theorem s_bq (x y : Bool) : Env.std.bq x y = (x == y) := rfl
@[simp] theorem s_pb (x y z : Bool) : Env.std.pb x y z = if x then y else z := rfl
@[simp] theorem s_pi (x : Bool) : Env.std.pi x a b = if x then a else b := rfl
@[simp] theorem s_sz : Env.std.sz s = s.size := rfl
@[simp] theorem s_sa : Env.std.sa s a = ((s[a.toNat]?).getD 0).toNat := rfl
@[simp] theorem s_ss : Env.std.ss s a b = s.extract a.toNat b.toNat := rfl
@[simp] theorem s_sc : Env.std.sc s t = s ++ t := rfl
@[simp] theorem s_cv : Env.std.cv k a = k.wrap a := rfl
@[simp] theorem s_inb : Env.std.inb a b = (0 <= a /\ a < b) := rfl
@[simp] theorem s_rng (c : Int) : Env.std.rng a b c = (0 <= a /\ a <= b /\ b <= c) := rfl
@[simp] theorem s_fits (n : Nat) : Env.std.fits a n = (0 <= a /\ a <= 9223372036854775807 /\ a * n <= 140737488355328) := rfl
@[simp] theorem s_nof (n : Nat) : Env.std.nof n = (n : Int) := rfl
@[simp] theorem s_ad : Env.std.ad a b = a + b := rfl
@[simp] theorem s_sb : Env.std.sb a b = a - b := rfl
@[simp] theorem s_mx : Env.std.mm true a b = if b > a then b else a := rfl
@[simp] theorem s_mn : Env.std.mm false a b = if b < a then b else a := rfl
@[simp] theorem s_neg : Env.std.un .neg k a = k.wrap (0 - a) := rfl
variable {α : Type} (xs ys : List α) (z : α)
@[simp] theorem s_get : Env.std.get α xs a z = xs.getD a.toNat z := rfl
@[simp] theorem s_set : Env.std.set α xs a z = xs.set a.toNat z := rfl
@[simp] theorem s_rep : Env.std.rep α a z = List.replicate a.toNat z := rfl
@[simp] theorem s_tk : Env.std.tk α xs a = xs.take a.toNat := rfl
@[simp] theorem s_wnd : Env.std.wnd α xs a b = (xs.drop a.toNat).take b.toNat := rfl
@[simp] theorem s_app : Env.std.app α xs ys = xs ++ ys := rfl
@[simp] theorem s_len : Env.std.len α xs = (xs.length : Int) := rfl
end
@[simp] theorem s_nc (j : Nat) : @NatCast.natCast Int _ j = (j : Int) := rfl
@[simp] theorem s_on (j : Nat) : Int.ofNat j = (j : Int) := rfl
@[simp] theorem nz_quo (b : Int) : Env.std.nz .quo b = (b ≠ 0) := rfl
@[simp] theorem nz_rem (b : Int) : Env.std.nz .rem b = (b ≠ 0) := rfl
@[simp] theorem nz_shl (b : Int) : Env.std.nz .shl b = (0 <= b) := rfl
@[simp] theorem nz_shr (b : Int) : Env.std.nz .shr b = (0 <= b) := rfl
end Go.Proofs.YtfdealobplcboaaGreat.Sx

set_option linter.unusedVariables false
set_option linter.unusedSimpArgs false
set_option maxRecDepth 100000
namespace Go.Proofs.YtfdealobplcboaaGreat.Sx
abbrev cU := cInt .u32
theorem trim_con (xs : List Int) (hb : xs.length <= 1099511627776) : Con Tryz.prog 207 [.ro cU xs] (.arg 0 (tlen xs)) := by
 refine Con.of ttOk mixed Tryz.func207 {} .nil 0 (by kernel_rfl) (fun P' E hP hE => ?_)
 obtain ⟨k, hk⟩ : ∃ k, k = xs.length := ⟨_, rfl⟩
 obtain ⟨m, hm⟩ : ∃ m, m = tlen xs := ⟨_, rfl⟩
 rw [<- hm]
 cbv
 refine LoopTo.by (ι := Nat) (fun n => [(0, .s 0 n)]) (fun _ => []) (fun n => n <= xs.length /\ ∀ i, n <= i -> xs.getD i 0 = 0) (fun n => n) k [] ⟨Nat.le_of_eq hk, fun i hi => ?_⟩ ?_ ?_
 ·rw [List.getD_eq_getElem?_getD, List.getElem?_eq_none (by omega)]; rfl
 ·cbv
  subst hE
  simp [hk]
 ·intro n hn
  cbv
  refine ⟨fun h1 => ?_, fun h1 => ?_⟩
  ·have hn0 : 0 < n := by subst hE; simpa using h1
   obtain ⟨j, rfl⟩ : ∃ j, n = j + 1 := ⟨n - 1, by omega⟩
   have hw : IntKind.i64.wrap (j : Int) = j := w64 (by omega) (by omega)
   cbv
   refine ⟨?_, ?_⟩
   ·subst hE
    simp [hw]; omega
   cbv
   refine ⟨fun h2 => ?_, fun h2 => ?_⟩
   ·cbv
    refine ⟨?_, ?_⟩
    ·subst hE
     simp [hw]; omega
    cbv
    refine ⟨j, [], ⟨by omega, fun i hi => ?_⟩, by omega, ?_⟩
    ·by_cases hi' : j + 1 <= i
     ·exact hn.2 i hi'
     ·have e : i = j := by omega
      subst e
      subst hE
      simpa [hw] using h2
    ·cbv
     subst hE
     simp [hw]
   ·cbv
    subst hE
    rw [hm, tlen_eq hn.1 hn.2 (.inr (by simpa [hw] using h2))]
  ·cbv
   have hn0 : n = 0 := by subst hE; simpa using h1
   rw [hm, tlen_eq hn.1 hn.2 (.inl hn0)]
end Go.Proofs.YtfdealobplcboaaGreat.Sx
