/- Part 7 of what the statement needs: an executor of Go texts, arithmetic, and contracts of the functions that are called. -/
import Derived.Test.YtfdealobplcboaaGreatCu1
import Derived.Test.YtfdealobplcboaaGreatCu6
import Derived.Test.YtfdealobplcboaaGreatProg
import Derived.KernelRfl
import Derived.Laws.BitsLemmas
import Derived.Laws.Bits64
import Derived.Laws.Strings
set_option linter.unusedVariables false
set_option linter.unusedSimpArgs false
namespace Go.Proofs.YtfdealobplcboaaGreat.Sx
open Go.RowKit Go.Proofs.YtfdealobplcboaaGreatW.PrintWords
abbrev ti3 : TI := { kind := 5, sz := 1, zero := [.int .i64 0], flds := [], elem := 0, ik := .i64, eq := false, len := 0, bytes := 8, cd := some (cInt .i64) }
abbrev ti4 : TI := { kind := 6, sz := 1, zero := [.bool false], flds := [], elem := 0, ik := .i64, eq := false, len := 0, bytes := 1, cd := some cBool }
abbrev ti9 : TI := { kind := 4, sz := 1, zero := [.string ⟨#[]⟩], flds := [], elem := 0, ik := .i64, eq := false, len := 0, bytes := 16, cd := some cStr }
abbrev ti5 : TI := { kind := 5, sz := 1, zero := [.int .u8 0], flds := [], elem := 0, ik := .u8, eq := false, len := 0, bytes := 1, cd := some (cInt .u8) }
abbrev ti168 : TI := { kind := 5, sz := 1, zero := [.int .u64 0], flds := [], elem := 0, ik := .u64, eq := false, len := 0, bytes := 8, cd := some (cInt .u64) }
abbrev ti169 : TI := { kind := 5, sz := 1, zero := [.int .u32 0], flds := [], elem := 0, ik := .u32, eq := false, len := 0, bytes := 4, cd := some (cInt .u32) }
abbrev ti33 : TI := { kind := 5, sz := 1, zero := [.int .i64 0], flds := [], elem := 0, ik := .i64, eq := false, len := 0, bytes := 8, cd := some (cInt .i64) }
abbrev ti23 : TI := { kind := 1, sz := 3, zero := [.bool false, .string ⟨#[]⟩, .string ⟨#[]⟩], flds := [(0, 1, false), (1, 1, false), (2, 1, false)], elem := 0, ik := .i64, eq := true, len := 0, bytes := 40, cd := some cR }
abbrev ti101 : TI := { kind := 1, sz := 2, zero := [.bool false, .string ⟨#[]⟩], flds := [(0, 1, false), (1, 1, false)], elem := 0, ik := .i64, eq := true, len := 0, bytes := 24, cd := some cZ }
abbrev ti103 : TI := { kind := 1, sz := 4, zero := [.bool false, .string ⟨#[]⟩, .bool false, .string ⟨#[]⟩], flds := [(0, 2, true), (2, 2, true)], elem := 0, ik := .i64, eq := true, len := 0, bytes := 48, cd := none }
abbrev ti25 : TI := { kind := 1, sz := 6, zero := [.bool false, .string ⟨#[]⟩, .string ⟨#[]⟩, .bool false, .string ⟨#[]⟩, .string ⟨#[]⟩], flds := [(0, 3, true), (3, 3, true)], elem := 0, ik := .i64, eq := true, len := 0, bytes := 80, cd := some cP }
abbrev ti27 : TI := { kind := 1, sz := 12, zero := [.bool false, .string ⟨#[]⟩, .string ⟨#[]⟩, .bool false, .string ⟨#[]⟩, .string ⟨#[]⟩, .bool false, .string ⟨#[]⟩, .string ⟨#[]⟩, .bool false, .string ⟨#[]⟩, .string ⟨#[]⟩], flds := [(0, 6, true), (6, 6, true)], elem := 0, ik := .i64, eq := true, len := 0, bytes := 160, cd := some cS }
abbrev ti55 : TI := { kind := 1, sz := 12, zero := [.bool false, .string ⟨#[]⟩, .string ⟨#[]⟩, .bool false, .string ⟨#[]⟩, .string ⟨#[]⟩, .bool false, .string ⟨#[]⟩, .string ⟨#[]⟩, .bool false, .string ⟨#[]⟩, .string ⟨#[]⟩], flds := [(0, 6, true), (6, 6, true)], elem := 0, ik := .i64, eq := true, len := 0, bytes := 160, cd := none }
abbrev ti36 : TI := { kind := 3, sz := 1, zero := [.slice none 0 0], flds := [], elem := 25, ik := .i64, eq := false, len := 0, bytes := 24, cd := none }
abbrev ti132 : TI := { kind := 3, sz := 1, zero := [.slice none 0 0], flds := [], elem := 23, ik := .i64, eq := false, len := 0, bytes := 24, cd := none }
abbrev ti78 : TI := { kind := 3, sz := 1, zero := [.slice none 0 0], flds := [], elem := 27, ik := .i64, eq := false, len := 0, bytes := 24, cd := none }
abbrev ti124 : TI := { kind := 3, sz := 1, zero := [.slice none 0 0], flds := [], elem := 36, ik := .i64, eq := false, len := 0, bytes := 24, cd := none }
abbrev ti208 : TI := { kind := 3, sz := 1, zero := [.slice none 0 0], flds := [], elem := 3, ik := .i64, eq := false, len := 0, bytes := 24, cd := none }
abbrev ti147 : TI := { kind := 3, sz := 1, zero := [.slice none 0 0], flds := [], elem := 169, ik := .i64, eq := false, len := 0, bytes := 24, cd := none }
abbrev ti171 : TI := { kind := 3, sz := 1, zero := [.slice none 0 0], flds := [], elem := 5, ik := .i64, eq := false, len := 0, bytes := 24, cd := none }
abbrev ti187 : TI := { kind := 2, sz := 8, zero := [.int .u8 0, .int .u8 0, .int .u8 0, .int .u8 0, .int .u8 0, .int .u8 0, .int .u8 0, .int .u8 0], flds := [], elem := 5, ik := .i64, eq := false, len := 8, bytes := 8, cd := none }
abbrev ti113 : TI := { kind := 0, sz := 1, zero := [.nilFunc], flds := [], elem := 0, ik := .i64, eq := false, len := 0, bytes := 8, cd := none }
abbrev ti114 : TI := { kind := 2, sz := 4, zero := [.nilFunc, .nilFunc, .nilFunc, .nilFunc], flds := [], elem := 113, ik := .i64, eq := false, len := 4, bytes := 32, cd := none }
theorem shape_bool_string_string (l : List Value) (h0 : shape [.bool false, .string ⟨#[]⟩, .string ⟨#[]⟩] l = true) : ∃ (a0 : Bool) (a1 : ByteArray) (a2 : ByteArray), l = [.bool a0, .string a1, .string a2] := by
 obtain ⟨a0, l0, rfl, h1⟩ := shape_bool h0
 obtain ⟨a1, l1, rfl, h2⟩ := shape_string h1
 obtain ⟨a2, l2, rfl, h3⟩ := shape_string h2
 obtain rfl := shape_nil h3
 exact ⟨a0, a1, a2, rfl⟩
theorem shape_bool_string (l : List Value) (h0 : shape [.bool false, .string ⟨#[]⟩] l = true) : ∃ (a0 : Bool) (a1 : ByteArray), l = [.bool a0, .string a1] := by
 obtain ⟨a0, l0, rfl, h1⟩ := shape_bool h0
 obtain ⟨a1, l1, rfl, h2⟩ := shape_string h1
 obtain rfl := shape_nil h2
 exact ⟨a0, a1, rfl⟩
theorem shape_bool_string_bool_string (l : List Value) (h0 : shape [.bool false, .string ⟨#[]⟩, .bool false, .string ⟨#[]⟩] l = true) : ∃ (a0 : Bool) (a1 : ByteArray) (a2 : Bool) (a3 : ByteArray), l = [.bool a0, .string a1, .bool a2, .string a3] := by
 obtain ⟨a0, l0, rfl, h1⟩ := shape_bool h0
 obtain ⟨a1, l1, rfl, h2⟩ := shape_string h1
 obtain ⟨a2, l2, rfl, h3⟩ := shape_bool h2
 obtain ⟨a3, l3, rfl, h4⟩ := shape_string h3
 obtain rfl := shape_nil h4
 exact ⟨a0, a1, a2, a3, rfl⟩
theorem shape_bool_string_string_bool_string_string (l : List Value) (h0 : shape [.bool false, .string ⟨#[]⟩, .string ⟨#[]⟩, .bool false, .string ⟨#[]⟩, .string ⟨#[]⟩] l = true) : ∃ (a0 : Bool) (a1 : ByteArray) (a2 : ByteArray) (a3 : Bool) (a4 : ByteArray) (a5 : ByteArray), l = [.bool a0, .string a1, .string a2, .bool a3, .string a4, .string a5] := by
 obtain ⟨a0, l0, rfl, h1⟩ := shape_bool h0
 obtain ⟨a1, l1, rfl, h2⟩ := shape_string h1
 obtain ⟨a2, l2, rfl, h3⟩ := shape_string h2
 obtain ⟨a3, l3, rfl, h4⟩ := shape_bool h3
 obtain ⟨a4, l4, rfl, h5⟩ := shape_string h4
 obtain ⟨a5, l5, rfl, h6⟩ := shape_string h5
 obtain rfl := shape_nil h6
 exact ⟨a0, a1, a2, a3, a4, a5, rfl⟩
theorem shape_bool_string_string_bool_string_string_bool_string_string_bool_string_string (l : List Value) (h0 : shape [.bool false, .string ⟨#[]⟩, .string ⟨#[]⟩, .bool false, .string ⟨#[]⟩, .string ⟨#[]⟩, .bool false, .string ⟨#[]⟩, .string ⟨#[]⟩, .bool false, .string ⟨#[]⟩, .string ⟨#[]⟩] l = true) : ∃ (a0 : Bool) (a1 : ByteArray) (a2 : ByteArray) (a3 : Bool) (a4 : ByteArray) (a5 : ByteArray) (a6 : Bool) (a7 : ByteArray) (a8 : ByteArray) (a9 : Bool) (a10 : ByteArray) (a11 : ByteArray), l = [.bool a0, .string a1, .string a2, .bool a3, .string a4, .string a5, .bool a6, .string a7, .string a8, .bool a9, .string a10, .string a11] := by
 obtain ⟨a0, l0, rfl, h1⟩ := shape_bool h0
 obtain ⟨a1, l1, rfl, h2⟩ := shape_string h1
 obtain ⟨a2, l2, rfl, h3⟩ := shape_string h2
 obtain ⟨a3, l3, rfl, h4⟩ := shape_bool h3
 obtain ⟨a4, l4, rfl, h5⟩ := shape_string h4
 obtain ⟨a5, l5, rfl, h6⟩ := shape_string h5
 obtain ⟨a6, l6, rfl, h7⟩ := shape_bool h6
 obtain ⟨a7, l7, rfl, h8⟩ := shape_string h7
 obtain ⟨a8, l8, rfl, h9⟩ := shape_string h8
 obtain ⟨a9, l9, rfl, h10⟩ := shape_bool h9
 obtain ⟨a10, l10, rfl, h11⟩ := shape_string h10
 obtain ⟨a11, l11, rfl, h12⟩ := shape_string h11
 obtain rfl := shape_nil h12
 exact ⟨a0, a1, a2, a3, a4, a5, a6, a7, a8, a9, a10, a11, rfl⟩
theorem eqA23 (d : Nat) (w : World) (x0 y0 : Bool) (x1 y1 : ByteArray) (x2 y2 : ByteArray) :
  (Op.equalIn (d + 2) 23 (.agg #[.bool x0, .string x1, .string x2]) (.agg #[.bool y0, .string y1, .string y2])).run Tryz.prog w = .ok (x0 == y0 && (x1.toList == y1.toList && (x2.toList == y2.toList))) w := by
 refine eqA_of Tryz.underlying23 (by kernel_rfl) ?_
 refine eqf_cons (by rfl) (by go_simp; rfl) (by go_simp; rfl) (by go_simp) ?_
 refine eqf_cons (by rfl) (by go_simp; rfl) (by go_simp; rfl) (by go_simp) ?_
 exact eqf_last (by rfl) (by go_simp; rfl) (by go_simp; rfl) (by go_simp)
theorem eqT23 (xs ys : Array Value) (w : World) (x y : Operand) (hx : shape ti23.zero xs.toList = true) (hy : shape ti23.zero ys.toList = true) :
  (do eqGuard .eql 23 x y (.agg xs) (.agg ys); binOp .eql 23 (.agg xs) (.agg ys)).run Tryz.prog w = .ok (.bool (eqCells xs.toList ys.toList)) w /\
  (do eqGuard .neq 23 x y (.agg xs) (.agg ys); binOp .neq 23 (.agg xs) (.agg ys)).run Tryz.prog w = .ok (.bool (!eqCells xs.toList ys.toList)) w := by
 obtain ⟨a0, a1, a2, hxs⟩ := shape_bool_string_string xs.toList hx
 obtain ⟨b0, b1, b2, hys⟩ := shape_bool_string_string ys.toList hy
 obtain rfl : xs = #[.bool a0, .string a1, .string a2] := Array.ext' hxs
 obtain rfl : ys = #[.bool b0, .string b1, .string b2] := Array.ext' hys
 have hg : ∀ op, (eqGuard op 23 x y (.agg #[.bool a0, .string a1, .string a2]) (.agg #[.bool b0, .string b1, .string b2])).run Tryz.prog w = .ok () w := fun op => eqGuard_agg (by kernel_rfl) op x y _ _ w
 have he := eqA23 9998 w a0 b0 a1 b1 a2 b2
 exact eq_both hg he (by simp only [eqCells, Bool.and_assoc, Bool.and_true])
theorem eqA101 (d : Nat) (w : World) (x0 y0 : Bool) (x1 y1 : ByteArray) :
  (Op.equalIn (d + 2) 101 (.agg #[.bool x0, .string x1]) (.agg #[.bool y0, .string y1])).run Tryz.prog w = .ok (x0 == y0 && (x1.toList == y1.toList)) w := by
 refine eqA_of Tryz.underlying101 (by kernel_rfl) ?_
 refine eqf_cons (by rfl) (by go_simp; rfl) (by go_simp; rfl) (by go_simp) ?_
 exact eqf_last (by rfl) (by go_simp; rfl) (by go_simp; rfl) (by go_simp)
theorem eqT101 (xs ys : Array Value) (w : World) (x y : Operand) (hx : shape ti101.zero xs.toList = true) (hy : shape ti101.zero ys.toList = true) :
  (do eqGuard .eql 101 x y (.agg xs) (.agg ys); binOp .eql 101 (.agg xs) (.agg ys)).run Tryz.prog w = .ok (.bool (eqCells xs.toList ys.toList)) w /\
  (do eqGuard .neq 101 x y (.agg xs) (.agg ys); binOp .neq 101 (.agg xs) (.agg ys)).run Tryz.prog w = .ok (.bool (!eqCells xs.toList ys.toList)) w := by
 obtain ⟨a0, a1, hxs⟩ := shape_bool_string xs.toList hx
 obtain ⟨b0, b1, hys⟩ := shape_bool_string ys.toList hy
 obtain rfl : xs = #[.bool a0, .string a1] := Array.ext' hxs
 obtain rfl : ys = #[.bool b0, .string b1] := Array.ext' hys
 have hg : ∀ op, (eqGuard op 101 x y (.agg #[.bool a0, .string a1]) (.agg #[.bool b0, .string b1])).run Tryz.prog w = .ok () w := fun op => eqGuard_agg (by kernel_rfl) op x y _ _ w
 have he := eqA101 9998 w a0 b0 a1 b1
 exact eq_both hg he (by simp only [eqCells, Bool.and_assoc, Bool.and_true])
theorem eqA103 (d : Nat) (w : World) (x0 y0 : Bool) (x1 y1 : ByteArray) (x2 y2 : Bool) (x3 y3 : ByteArray) :
  (Op.equalIn (d + 3) 103 (.agg #[.bool x0, .string x1, .bool x2, .string x3]) (.agg #[.bool y0, .string y1, .bool y2, .string y3])).run Tryz.prog w = .ok ((x0 == y0 && (x1.toList == y1.toList)) && ((x2 == y2 && (x3.toList == y3.toList)))) w := by
 refine eqA_of Tryz.underlying103 (by kernel_rfl) ?_
 refine eqf_cons (by rfl) (by go_simp) (by go_simp) (eqA101 (d + 0) w _ _ _ _) ?_
 exact eqf_last (by rfl) (by go_simp) (by go_simp) (eqA101 (d + 0) w _ _ _ _)
theorem eqT103 (xs ys : Array Value) (w : World) (x y : Operand) (hx : shape ti103.zero xs.toList = true) (hy : shape ti103.zero ys.toList = true) :
  (do eqGuard .eql 103 x y (.agg xs) (.agg ys); binOp .eql 103 (.agg xs) (.agg ys)).run Tryz.prog w = .ok (.bool (eqCells xs.toList ys.toList)) w /\
  (do eqGuard .neq 103 x y (.agg xs) (.agg ys); binOp .neq 103 (.agg xs) (.agg ys)).run Tryz.prog w = .ok (.bool (!eqCells xs.toList ys.toList)) w := by
 obtain ⟨a0, a1, a2, a3, hxs⟩ := shape_bool_string_bool_string xs.toList hx
 obtain ⟨b0, b1, b2, b3, hys⟩ := shape_bool_string_bool_string ys.toList hy
 obtain rfl : xs = #[.bool a0, .string a1, .bool a2, .string a3] := Array.ext' hxs
 obtain rfl : ys = #[.bool b0, .string b1, .bool b2, .string b3] := Array.ext' hys
 have hg : ∀ op, (eqGuard op 103 x y (.agg #[.bool a0, .string a1, .bool a2, .string a3]) (.agg #[.bool b0, .string b1, .bool b2, .string b3])).run Tryz.prog w = .ok () w := fun op => eqGuard_agg (by kernel_rfl) op x y _ _ w
 have he := eqA103 9997 w a0 b0 a1 b1 a2 b2 a3 b3
 exact eq_both hg he (by simp only [eqCells, Bool.and_assoc, Bool.and_true])
theorem eqA25 (d : Nat) (w : World) (x0 y0 : Bool) (x1 y1 : ByteArray) (x2 y2 : ByteArray) (x3 y3 : Bool) (x4 y4 : ByteArray) (x5 y5 : ByteArray) :
  (Op.equalIn (d + 3) 25 (.agg #[.bool x0, .string x1, .string x2, .bool x3, .string x4, .string x5]) (.agg #[.bool y0, .string y1, .string y2, .bool y3, .string y4, .string y5])).run Tryz.prog w = .ok ((x0 == y0 && (x1.toList == y1.toList && (x2.toList == y2.toList))) && ((x3 == y3 && (x4.toList == y4.toList && (x5.toList == y5.toList))))) w := by
 refine eqA_of Tryz.underlying25 (by kernel_rfl) ?_
 refine eqf_cons (by rfl) (by go_simp) (by go_simp) (eqA23 (d + 0) w _ _ _ _ _ _) ?_
 exact eqf_last (by rfl) (by go_simp) (by go_simp) (eqA23 (d + 0) w _ _ _ _ _ _)
theorem eqT25 (xs ys : Array Value) (w : World) (x y : Operand) (hx : shape ti25.zero xs.toList = true) (hy : shape ti25.zero ys.toList = true) :
  (do eqGuard .eql 25 x y (.agg xs) (.agg ys); binOp .eql 25 (.agg xs) (.agg ys)).run Tryz.prog w = .ok (.bool (eqCells xs.toList ys.toList)) w /\
  (do eqGuard .neq 25 x y (.agg xs) (.agg ys); binOp .neq 25 (.agg xs) (.agg ys)).run Tryz.prog w = .ok (.bool (!eqCells xs.toList ys.toList)) w := by
 obtain ⟨a0, a1, a2, a3, a4, a5, hxs⟩ := shape_bool_string_string_bool_string_string xs.toList hx
 obtain ⟨b0, b1, b2, b3, b4, b5, hys⟩ := shape_bool_string_string_bool_string_string ys.toList hy
 obtain rfl : xs = #[.bool a0, .string a1, .string a2, .bool a3, .string a4, .string a5] := Array.ext' hxs
 obtain rfl : ys = #[.bool b0, .string b1, .string b2, .bool b3, .string b4, .string b5] := Array.ext' hys
 have hg : ∀ op, (eqGuard op 25 x y (.agg #[.bool a0, .string a1, .string a2, .bool a3, .string a4, .string a5]) (.agg #[.bool b0, .string b1, .string b2, .bool b3, .string b4, .string b5])).run Tryz.prog w = .ok () w := fun op => eqGuard_agg (by kernel_rfl) op x y _ _ w
 have he := eqA25 9997 w a0 b0 a1 b1 a2 b2 a3 b3 a4 b4 a5 b5
 exact eq_both hg he (by simp only [eqCells, Bool.and_assoc, Bool.and_true])
theorem eqA27 (d : Nat) (w : World) (x0 y0 : Bool) (x1 y1 : ByteArray) (x2 y2 : ByteArray) (x3 y3 : Bool) (x4 y4 : ByteArray) (x5 y5 : ByteArray) (x6 y6 : Bool) (x7 y7 : ByteArray) (x8 y8 : ByteArray) (x9 y9 : Bool) (x10 y10 : ByteArray) (x11 y11 : ByteArray) :
  (Op.equalIn (d + 4) 27 (.agg #[.bool x0, .string x1, .string x2, .bool x3, .string x4, .string x5, .bool x6, .string x7, .string x8, .bool x9, .string x10, .string x11]) (.agg #[.bool y0, .string y1, .string y2, .bool y3, .string y4, .string y5, .bool y6, .string y7, .string y8, .bool y9, .string y10, .string y11])).run Tryz.prog w = .ok (((x0 == y0 && (x1.toList == y1.toList && (x2.toList == y2.toList))) && ((x3 == y3 && (x4.toList == y4.toList && (x5.toList == y5.toList))))) && (((x6 == y6 && (x7.toList == y7.toList && (x8.toList == y8.toList))) && ((x9 == y9 && (x10.toList == y10.toList && (x11.toList == y11.toList))))))) w := by
 refine eqA_of Tryz.underlying27 (by kernel_rfl) ?_
 refine eqf_cons (by rfl) (by go_simp) (by go_simp) (eqA25 (d + 0) w _ _ _ _ _ _ _ _ _ _ _ _) ?_
 exact eqf_last (by rfl) (by go_simp) (by go_simp) (eqA25 (d + 0) w _ _ _ _ _ _ _ _ _ _ _ _)
theorem eqT27 (xs ys : Array Value) (w : World) (x y : Operand) (hx : shape ti27.zero xs.toList = true) (hy : shape ti27.zero ys.toList = true) :
  (do eqGuard .eql 27 x y (.agg xs) (.agg ys); binOp .eql 27 (.agg xs) (.agg ys)).run Tryz.prog w = .ok (.bool (eqCells xs.toList ys.toList)) w /\
  (do eqGuard .neq 27 x y (.agg xs) (.agg ys); binOp .neq 27 (.agg xs) (.agg ys)).run Tryz.prog w = .ok (.bool (!eqCells xs.toList ys.toList)) w := by
 obtain ⟨a0, a1, a2, a3, a4, a5, a6, a7, a8, a9, a10, a11, hxs⟩ := shape_bool_string_string_bool_string_string_bool_string_string_bool_string_string xs.toList hx
 obtain ⟨b0, b1, b2, b3, b4, b5, b6, b7, b8, b9, b10, b11, hys⟩ := shape_bool_string_string_bool_string_string_bool_string_string_bool_string_string ys.toList hy
 obtain rfl : xs = #[.bool a0, .string a1, .string a2, .bool a3, .string a4, .string a5, .bool a6, .string a7, .string a8, .bool a9, .string a10, .string a11] := Array.ext' hxs
 obtain rfl : ys = #[.bool b0, .string b1, .string b2, .bool b3, .string b4, .string b5, .bool b6, .string b7, .string b8, .bool b9, .string b10, .string b11] := Array.ext' hys
 have hg : ∀ op, (eqGuard op 27 x y (.agg #[.bool a0, .string a1, .string a2, .bool a3, .string a4, .string a5, .bool a6, .string a7, .string a8, .bool a9, .string a10, .string a11]) (.agg #[.bool b0, .string b1, .string b2, .bool b3, .string b4, .string b5, .bool b6, .string b7, .string b8, .bool b9, .string b10, .string b11])).run Tryz.prog w = .ok () w := fun op => eqGuard_agg (by kernel_rfl) op x y _ _ w
 have he := eqA27 9996 w a0 b0 a1 b1 a2 b2 a3 b3 a4 b4 a5 b5 a6 b6 a7 b7 a8 b8 a9 b9 a10 b10 a11 b11
 exact eq_both hg he (by simp only [eqCells, Bool.and_assoc, Bool.and_true])
theorem eqA55 (d : Nat) (w : World) (x0 y0 : Bool) (x1 y1 : ByteArray) (x2 y2 : ByteArray) (x3 y3 : Bool) (x4 y4 : ByteArray) (x5 y5 : ByteArray) (x6 y6 : Bool) (x7 y7 : ByteArray) (x8 y8 : ByteArray) (x9 y9 : Bool) (x10 y10 : ByteArray) (x11 y11 : ByteArray) :
  (Op.equalIn (d + 4) 55 (.agg #[.bool x0, .string x1, .string x2, .bool x3, .string x4, .string x5, .bool x6, .string x7, .string x8, .bool x9, .string x10, .string x11]) (.agg #[.bool y0, .string y1, .string y2, .bool y3, .string y4, .string y5, .bool y6, .string y7, .string y8, .bool y9, .string y10, .string y11])).run Tryz.prog w = .ok (((x0 == y0 && (x1.toList == y1.toList && (x2.toList == y2.toList))) && ((x3 == y3 && (x4.toList == y4.toList && (x5.toList == y5.toList))))) && (((x6 == y6 && (x7.toList == y7.toList && (x8.toList == y8.toList))) && ((x9 == y9 && (x10.toList == y10.toList && (x11.toList == y11.toList))))))) w := by
 refine eqA_of Tryz.underlying55 (by kernel_rfl) ?_
 refine eqf_cons (by rfl) (by go_simp) (by go_simp) (eqA25 (d + 0) w _ _ _ _ _ _ _ _ _ _ _ _) ?_
 exact eqf_last (by rfl) (by go_simp) (by go_simp) (eqA25 (d + 0) w _ _ _ _ _ _ _ _ _ _ _ _)
theorem eqT55 (xs ys : Array Value) (w : World) (x y : Operand) (hx : shape ti55.zero xs.toList = true) (hy : shape ti55.zero ys.toList = true) :
  (do eqGuard .eql 55 x y (.agg xs) (.agg ys); binOp .eql 55 (.agg xs) (.agg ys)).run Tryz.prog w = .ok (.bool (eqCells xs.toList ys.toList)) w /\
  (do eqGuard .neq 55 x y (.agg xs) (.agg ys); binOp .neq 55 (.agg xs) (.agg ys)).run Tryz.prog w = .ok (.bool (!eqCells xs.toList ys.toList)) w := by
 obtain ⟨a0, a1, a2, a3, a4, a5, a6, a7, a8, a9, a10, a11, hxs⟩ := shape_bool_string_string_bool_string_string_bool_string_string_bool_string_string xs.toList hx
 obtain ⟨b0, b1, b2, b3, b4, b5, b6, b7, b8, b9, b10, b11, hys⟩ := shape_bool_string_string_bool_string_string_bool_string_string_bool_string_string ys.toList hy
 obtain rfl : xs = #[.bool a0, .string a1, .string a2, .bool a3, .string a4, .string a5, .bool a6, .string a7, .string a8, .bool a9, .string a10, .string a11] := Array.ext' hxs
 obtain rfl : ys = #[.bool b0, .string b1, .string b2, .bool b3, .string b4, .string b5, .bool b6, .string b7, .string b8, .bool b9, .string b10, .string b11] := Array.ext' hys
 have hg : ∀ op, (eqGuard op 55 x y (.agg #[.bool a0, .string a1, .string a2, .bool a3, .string a4, .string a5, .bool a6, .string a7, .string a8, .bool a9, .string a10, .string a11]) (.agg #[.bool b0, .string b1, .string b2, .bool b3, .string b4, .string b5, .bool b6, .string b7, .string b8, .bool b9, .string b10, .string b11])).run Tryz.prog w = .ok () w := fun op => eqGuard_agg (by kernel_rfl) op x y _ _ w
 have he := eqA55 9996 w a0 b0 a1 b1 a2 b2 a3 b3 a4 b4 a5 b5 a6 b6 a7 b7 a8 b8 a9 b9 a10 b10 a11 b11
 exact eq_both hg he (by simp only [eqCells, Bool.and_assoc, Bool.and_true])
theorem ty3 : TyOk Tryz.prog 3 ti3 := ⟨by kernel_rfl, by kernel_rfl, (fun _ => ⟨_, rfl, rfl⟩), rfl, (fun _ h => by injection h with h; subst h; exact ⟨cInt_ok _, rfl, rfl⟩), (fun h => by cases h)⟩
theorem ty4 : TyOk Tryz.prog 4 ti4 := ⟨by kernel_rfl, by kernel_rfl, (fun _ => ⟨_, rfl, rfl⟩), rfl, (fun _ h => by injection h with h; subst h; exact ⟨cBool_ok, rfl, rfl⟩), (fun h => by cases h)⟩
theorem ty9 : TyOk Tryz.prog 9 ti9 := ⟨by kernel_rfl, by kernel_rfl, (fun _ => ⟨_, rfl, rfl⟩), rfl, (fun _ h => by injection h with h; subst h; exact ⟨cStr_ok, rfl, rfl⟩), (fun h => by cases h)⟩
theorem ty5 : TyOk Tryz.prog 5 ti5 := ⟨by kernel_rfl, by kernel_rfl, (fun _ => ⟨_, rfl, rfl⟩), rfl, (fun _ h => by injection h with h; subst h; exact ⟨cInt_ok _, rfl, rfl⟩), (fun h => by cases h)⟩
theorem ty168 : TyOk Tryz.prog 168 ti168 := ⟨by kernel_rfl, by kernel_rfl, (fun _ => ⟨_, rfl, rfl⟩), rfl, (fun _ h => by injection h with h; subst h; exact ⟨cInt_ok _, rfl, rfl⟩), (fun h => by cases h)⟩
theorem ty169 : TyOk Tryz.prog 169 ti169 := ⟨by kernel_rfl, by kernel_rfl, (fun _ => ⟨_, rfl, rfl⟩), rfl, (fun _ h => by injection h with h; subst h; exact ⟨cInt_ok _, rfl, rfl⟩), (fun h => by cases h)⟩
theorem ty33 : TyOk Tryz.prog 33 ti33 := ⟨by kernel_rfl, by kernel_rfl, (fun _ => ⟨_, rfl, rfl⟩), rfl, (fun _ h => by injection h with h; subst h; exact ⟨cInt_ok _, rfl, rfl⟩), (fun h => by cases h)⟩
theorem ty23 : TyOk Tryz.prog 23 ti23 := ⟨by kernel_rfl, by kernel_rfl, (fun h => by cases h), rfl, (fun _ h => by injection h with h; subst h; exact ⟨cR_ok, rfl, rfl⟩), (fun _ => ⟨rfl, eqT23⟩)⟩
theorem ty101 : TyOk Tryz.prog 101 ti101 := ⟨by kernel_rfl, by kernel_rfl, (fun h => by cases h), rfl, (fun _ h => by injection h with h; subst h; exact ⟨cZ_ok, rfl, rfl⟩), (fun _ => ⟨rfl, eqT101⟩)⟩
theorem ty103 : TyOk Tryz.prog 103 ti103 := ⟨by kernel_rfl, by kernel_rfl, (fun h => by cases h), rfl, (fun _ h => by cases h), (fun _ => ⟨rfl, eqT103⟩)⟩
theorem ty25 : TyOk Tryz.prog 25 ti25 := ⟨by kernel_rfl, by kernel_rfl, (fun h => by cases h), rfl, (fun _ h => by injection h with h; subst h; exact ⟨cP_ok, rfl, rfl⟩), (fun _ => ⟨rfl, eqT25⟩)⟩
theorem ty27 : TyOk Tryz.prog 27 ti27 := ⟨by kernel_rfl, by kernel_rfl, (fun h => by cases h), rfl, (fun _ h => by injection h with h; subst h; exact ⟨cS_ok, rfl, rfl⟩), (fun _ => ⟨rfl, eqT27⟩)⟩
theorem ty55 : TyOk Tryz.prog 55 ti55 := ⟨by kernel_rfl, by kernel_rfl, (fun h => by cases h), rfl, (fun _ h => by cases h), (fun _ => ⟨rfl, eqT55⟩)⟩
theorem ty36 : TyOk Tryz.prog 36 ti36 := ⟨by kernel_rfl, by kernel_rfl, (fun _ => ⟨_, rfl, rfl⟩), rfl, (fun _ h => by cases h), (fun h => by cases h)⟩
theorem ty132 : TyOk Tryz.prog 132 ti132 := ⟨by kernel_rfl, by kernel_rfl, (fun _ => ⟨_, rfl, rfl⟩), rfl, (fun _ h => by cases h), (fun h => by cases h)⟩
theorem ty78 : TyOk Tryz.prog 78 ti78 := ⟨by kernel_rfl, by kernel_rfl, (fun _ => ⟨_, rfl, rfl⟩), rfl, (fun _ h => by cases h), (fun h => by cases h)⟩
theorem ty124 : TyOk Tryz.prog 124 ti124 := ⟨by kernel_rfl, by kernel_rfl, (fun _ => ⟨_, rfl, rfl⟩), rfl, (fun _ h => by cases h), (fun h => by cases h)⟩
theorem ty208 : TyOk Tryz.prog 208 ti208 := ⟨by kernel_rfl, by kernel_rfl, (fun _ => ⟨_, rfl, rfl⟩), rfl, (fun _ h => by cases h), (fun h => by cases h)⟩
theorem ty147 : TyOk Tryz.prog 147 ti147 := ⟨by kernel_rfl, by kernel_rfl, (fun _ => ⟨_, rfl, rfl⟩), rfl, (fun _ h => by cases h), (fun h => by cases h)⟩
theorem ty171 : TyOk Tryz.prog 171 ti171 := ⟨by kernel_rfl, by kernel_rfl, (fun _ => ⟨_, rfl, rfl⟩), rfl, (fun _ h => by cases h), (fun h => by cases h)⟩
theorem ty187 : TyOk Tryz.prog 187 ti187 := ⟨by kernel_rfl, by kernel_rfl, (fun h => by cases h), rfl, (fun _ h => by cases h), (fun h => by cases h)⟩
theorem ty113 : TyOk Tryz.prog 113 ti113 := ⟨by kernel_rfl, by kernel_rfl, (fun _ => ⟨_, rfl, rfl⟩), rfl, (fun _ h => by cases h), (fun h => by cases h)⟩
theorem ty114 : TyOk Tryz.prog 114 ti114 := ⟨by kernel_rfl, by kernel_rfl, (fun h => by cases h), rfl, (fun _ h => by cases h), (fun h => by cases h)⟩
def tt : Tab := [(3, ti3), (4, ti4), (9, ti9), (5, ti5), (168, ti168), (169, ti169), (33, ti33), (23, ti23), (101, ti101), (103, ti103), (25, ti25), (27, ti27), (55, ti55), (36, ti36), (132, ti132), (78, ti78), (124, ti124), (208, ti208), (147, ti147), (171, ti171), (187, ti187), (113, ti113), (114, ti114)]
theorem ttOk : TabOk Tryz.prog tt := .cons ty3 (.cons ty4 (.cons ty9 (.cons ty5 (.cons ty168 (.cons ty169 (.cons ty33 (.cons ty23 (.cons ty101 (.cons ty103 (.cons ty25 (.cons ty27 (.cons ty55 (.cons ty36 (.cons ty132 (.cons ty78 (.cons ty124 (.cons ty208 (.cons ty147 (.cons ty171 (.cons ty187 (.cons ty113 (.cons ty114 (.nil _)))))))))))))))))))))))
theorem mixed : Tryz.prog.follows .mixedOrders = true := by kernel_rfl
end Go.Proofs.YtfdealobplcboaaGreat.Sx

set_option linter.unusedVariables false
set_option linter.unusedSimpArgs false
namespace Go.Proofs.YtfdealobplcboaaGreat.Sx
/-- The value of a row of limbs, the least one first. -/
def val : List Int -> Int
 | [] => 0
 | x :: xs => x + 4294967296 * val xs
def Ok32 (xs : List Int) : Prop := ∀ x ∈ xs, 0 <= x /\ x < 4294967296
/-- The row of a number, without zeros at its end. -/
def lb (n : Nat) : List Int :=
 if h : n = 0 then [] else ((n % 4294967296 : Nat) : Int) :: lb (n / 4294967296)
 termination_by n
 decreasing_by omega
/-- k limbs of a number. -/
def fixl : Nat -> Nat -> List Int
 | 0, _ => []
 | k + 1, n => ((n % 4294967296 : Nat) : Int) :: fixl k (n / 4294967296)
/-- The length without zeros at the end. -/
def tlen : List Int -> Nat
 | [] => 0
 | x :: xs => if tlen xs = 0 then (if x = 0 then 0 else 1) else tlen xs + 1
theorem lb_zero : lb 0 = [] := by rw [lb]; simp
theorem lb_pos {n : Nat} (h : n ≠ 0) : lb n = ((n % 4294967296 : Nat) : Int) :: lb (n / 4294967296) := by rw [lb]; simp [h]
theorem Ok32.nil : Ok32 [] := fun _ h => by cases h
theorem Ok32.cons {x : Int} {xs : List Int} (h0 : 0 <= x) (h1 : x < 4294967296) (h : Ok32 xs) : Ok32 (x :: xs) := by
 intro y hy
 rcases List.mem_cons.1 hy with rfl | hy
 ·exact ⟨h0, h1⟩
 ·exact h y hy
theorem Ok32.tail {x : Int} {xs : List Int} (h : Ok32 (x :: xs)) : Ok32 xs := fun y hy => h y (by simp [hy])
theorem Ok32.head {x : Int} {xs : List Int} (h : Ok32 (x :: xs)) : 0 <= x /\ x < 4294967296 := h x (by simp)
theorem Ok32.get {xs : List Int} (h : Ok32 xs) (i : Nat) : 0 <= xs.getD i 0 /\ xs.getD i 0 < 4294967296 := by
 rw [List.getD_eq_getElem?_getD]
 cases e : xs[i]? with
 | none => simp
 | some x => simp; exact h x (List.mem_of_getElem? e)
theorem Ok32.set {xs : List Int} (h : Ok32 xs) {x : Int} (h0 : 0 <= x) (h1 : x < 4294967296) (i : Nat) : Ok32 (xs.set i x) := by
 intro y hy
 rcases List.mem_or_eq_of_mem_set hy with hy | rfl
 ·exact h y hy
 ·exact ⟨h0, h1⟩
theorem Ok32.append {xs ys : List Int} (h : Ok32 xs) (h' : Ok32 ys) : Ok32 (xs ++ ys) := fun y hy => (List.mem_append.1 hy).elim (h y) (h' y)
theorem Ok32.take {xs : List Int} (h : Ok32 xs) (n : Nat) : Ok32 (xs.take n) := fun y hy => h y (List.mem_of_mem_take hy)
theorem Ok32.drop {xs : List Int} (h : Ok32 xs) (n : Nat) : Ok32 (xs.drop n) := fun y hy => h y (List.mem_of_mem_drop hy)
theorem Ok32.rep (n : Nat) : Ok32 (List.replicate n 0) := fun y hy => by rw [(List.mem_replicate.1 hy).2]; decide
theorem val_nonneg : ∀ {xs : List Int}, Ok32 xs -> 0 <= val xs
 | [], _ => by simp [val]
 | x :: xs, h => by
  have := val_nonneg h.tail
  have := h.head
  simp only [val]; omega
theorem val_append : ∀ (xs ys : List Int), val (xs ++ ys) = val xs + 4294967296 ^ xs.length * val ys
 | [], ys => by simp [val]
 | x :: xs, ys => by
  simp only [List.cons_append, val, val_append xs ys, List.length_cons, Int.pow_succ]
  grind
theorem val_rep : ∀ n : Nat, val (List.replicate n 0) = 0
 | 0 => rfl
 | n + 1 => by simp [List.replicate_succ, val, val_rep n]
theorem val_lt : ∀ {xs : List Int}, Ok32 xs -> val xs < 4294967296 ^ xs.length
 | [], _ => by simp [val]
 | x :: xs, h => by
  have h1 := val_lt h.tail
  have h2 := h.head
  simp only [val, List.length_cons, Int.pow_succ]
  omega
theorem lb_ok (n : Nat) : Ok32 (lb n) := by
 induction n using Nat.strongRecOn with
 | ind n ih =>
  by_cases h : n = 0
  ·subst h; rw [lb_zero]; exact .nil
  ·rw [lb_pos h]
   exact .cons (by omega) (by omega) (ih _ (by omega))
theorem val_lb (n : Nat) : val (lb n) = n := by
 induction n using Nat.strongRecOn with
 | ind n ih =>
  by_cases h : n = 0
  ·subst h; rw [lb_zero]; rfl
  ·rw [lb_pos h, val, ih _ (by omega)]; omega
theorem fixl_ok : ∀ k n, Ok32 (fixl k n)
 | 0, _ => .nil
 | k + 1, n => .cons (by omega) (by omega) (fixl_ok k _)
theorem fixl_length : ∀ k n, (fixl k n).length = k
 | 0, _ => rfl
 | k + 1, n => by simp [fixl, fixl_length k]
/-- A row without zeros at its end is that of its value. -/
theorem take_tlen : ∀ {xs : List Int}, Ok32 xs -> xs.take (tlen xs) = lb (val xs).toNat
 | [], _ => by simp [tlen, val, lb_zero]
 | x :: xs, h => by
  have ih := take_tlen h.tail
  have hv := val_nonneg h.tail
  have hx := h.head
  simp only [tlen, val]
  by_cases ht : tlen xs = 0
  ·rw [ht] at ih
   simp only [List.take_zero] at ih
   have hz : (val xs).toNat = 0 := by
    by_cases hz : (val xs).toNat = 0
    ·exact hz
    ·rw [lb_pos hz] at ih; cases ih
   have hz' : val xs = 0 := by omega
   simp only [ht, if_true, hz', Int.mul_zero, Int.add_zero]
   by_cases h0 : x = 0
   ·simp [h0, lb_zero]
   ·rw [lb_pos (by omega)]
    have e1 : x.toNat / 4294967296 = 0 := by omega
    have e2 : ((x.toNat % 4294967296 : Nat) : Int) = x := by omega
    simp only [h0, if_false, e1, lb_zero, e2]
    rfl
  ·have hz : (val xs).toNat ≠ 0 := by
    intro hz
    rw [hz, lb_zero] at ih
    cases xs with
    | nil => exact ht rfl
    | cons y ys => cases e : tlen (y :: ys) with
     | zero => exact ht e
     | succ n => rw [e] at ih; cases ih
   rw [if_neg ht, List.take_succ_cons, ih, lb_pos (n := (x + 4294967296 * val xs).toNat) (by omega)]
   have e1 : (x + 4294967296 * val xs).toNat / 4294967296 = (val xs).toNat := by omega
   have e2 : (((x + 4294967296 * val xs).toNat % 4294967296 : Nat) : Int) = x := by omega
   rw [e1, e2]
theorem tlen_le : ∀ xs : List Int, tlen xs <= xs.length
 | [] => Nat.le_refl _
 | x :: xs => by
  have := tlen_le xs
  simp only [tlen, List.length_cons]
  split
  ·split <;> omega
  ·omega
theorem tlen_eq : ∀ {xs : List Int} {n : Nat}, n <= xs.length -> (∀ i, n <= i -> xs.getD i 0 = 0) -> (n = 0 \/ xs.getD (n - 1) 0 ≠ 0) -> tlen xs = n
 | [], n, h, _, _ => by simp at h; simp [tlen, h]
 | x :: xs, n, h, h1, h2 => by
  cases n with
  | zero =>
   have ih := tlen_eq (xs := xs) (n := 0) (Nat.zero_le _) (fun i _ => by simpa using h1 (i + 1) (by omega)) (.inl rfl)
   have hx : x = 0 := by simpa using h1 0 (Nat.le_refl _)
   simp [tlen, ih, hx]
  | succ n =>
   have h3 : xs.getD (n - 1) 0 ≠ 0 \/ n = 0 := by
    rcases h2 with h2 | h2
    ·omega
    ·by_cases hn : n = 0
     ·exact .inr hn
     ·left
      have e : n + 1 - 1 = (n - 1) + 1 := by omega
      rw [e] at h2
      simpa using h2
   have ih := tlen_eq (xs := xs) (n := n) (by simpa using h) (fun i hi => by simpa using h1 (i + 1) (by omega)) (h3.elim .inr .inl)
   simp only [tlen, ih]
   by_cases hn : n = 0
   ·subst hn
    have hx : x ≠ 0 := by
     rcases h2 with h2 | h2
     ·omega
     ·simpa using h2
    simp [hx]
   ·simp [hn]
theorem w64 {n : Int} (h0 : -9223372036854775808 <= n) (h1 : n < 9223372036854775808) : IntKind.i64.wrap n = n := by rw [IntKind.wrap_i64]; omega
theorem td (a b : Nat) : (a : Int).tdiv (b : Int) = ((a / b : Nat) : Int) := by rw [Int.tdiv_eq_ediv_of_nonneg (by omega)]; rfl
theorem tm (a b : Nat) : (a : Int).tmod (b : Int) = ((a % b : Nat) : Int) := by rw [Int.tmod_eq_emod_of_nonneg (by omega)]; rfl
theorem td4 (a : Nat) : (a : Int).tdiv 4 = ((a / 4 : Nat) : Int) := td a 4
theorem tm4 (a : Nat) : (a : Int).tmod 4 = ((a % 4 : Nat) : Int) := tm a 4
theorem wu64 {n : Int} (h0 : 0 <= n) (h1 : n < 18446744073709551616) : IntKind.u64.wrap n = n := by rw [IntKind.wrap_u64]; omega
theorem wu32 {n : Int} (h0 : 0 <= n) (h1 : n < 4294967296) : IntKind.u32.wrap n = n := by rw [IntKind.wrap_u32]; omega
theorem wu8 {n : Int} (h0 : 0 <= n) (h1 : n < 256) : IntKind.u8.wrap n = n := by rw [IntKind.wrap_u8]; omega
section
variable (k : IntKind) (a b : Int) (s t : ByteArray)
@[simp] theorem s_add : Env.std.ib .add k a b = k.wrap (a + b) := rfl
@[simp] theorem s_sub : Env.std.ib .sub k a b = k.wrap (a - b) := rfl
@[simp] theorem s_mul : Env.std.ib .mul k a b = k.wrap (a * b) := rfl
@[simp] theorem s_quo : Env.std.ib .quo k a b = k.wrap (a.tdiv b) := rfl
@[simp] theorem s_rem : Env.std.ib .rem k a b = a.tmod b := rfl
@[simp] theorem s_shl : Env.std.ib .shl k a b = k.wrap (a * 2 ^ (min b.toNat k.bits)) := rfl
@[simp] theorem s_shr : Env.std.ib .shr k a b = a.fdiv (2 ^ (min b.toNat k.bits)) := rfl
@[simp] theorem s_eql : Env.std.ic .eql a b = decide (a = b) := rfl
@[simp] theorem s_neq : Env.std.ic .neq a b = decide (a ≠ b) := by simp [Env.std]; rfl
@[simp] theorem s_lss : Env.std.ic .lss a b = decide (a < b) := rfl
@[simp] theorem s_leq : Env.std.ic .leq a b = decide (a <= b) := rfl
@[simp] theorem s_gtr : Env.std.ic .gtr a b = decide (a > b) := rfl
@[simp] theorem s_geq : Env.std.ic .geq a b = decide (a >= b) := rfl
@[simp] theorem s_bn (x : Bool) : Env.std.bn x = !x := rfl
@[simp] theorem s_bq (x y : Bool) : Env.std.bq x y = (x == y) := rfl
@[simp] theorem s_pb (x y z : Bool) : Env.std.pb x y z = if x then y else z := rfl
@[simp] theorem s_pi (x : Bool) : Env.std.pi x a b = if x then a else b := rfl
@[simp] theorem s_sz : Env.std.sz s = s.size := rfl
@[simp] theorem s_sa : Env.std.sa s a = ((s[a.toNat]?).getD 0).toNat := rfl
@[simp] theorem s_ss : Env.std.ss s a b = s.extract a.toNat b.toNat := rfl
@[simp] theorem s_sc : Env.std.sc s t = s ++ t := rfl
@[simp] theorem s_cv : Env.std.cv k a = k.wrap a := rfl
@[simp] theorem s_inb : Env.std.inb a b = (0 <= a /\ a < b) := rfl
@[simp] theorem s_rng (c : Int) : Env.std.rng a b c = (0 <= a /\ a <= b /\ b <= c) := rfl
@[simp] theorem s_fits (n : Nat) : Env.std.fits a n = (0 <= a /\ a <= 9223372036854775807 /\ a * n <= 140737488355328) := rfl
@[simp] theorem s_nof (n : Nat) : Env.std.nof n = (n : Int) := rfl
@[simp] theorem s_ad : Env.std.ad a b = a + b := rfl
@[simp] theorem s_sb : Env.std.sb a b = a - b := rfl
@[simp] theorem s_mx : Env.std.mm true a b = if b > a then b else a := rfl
@[simp] theorem s_mn : Env.std.mm false a b = if b < a then b else a := rfl
@[simp] theorem s_neg : Env.std.un .neg k a = k.wrap (0 - a) := rfl
variable {α : Type} (xs ys : List α) (z : α)
@[simp] theorem s_get : Env.std.get α xs a z = xs.getD a.toNat z := rfl
@[simp] theorem s_set : Env.std.set α xs a z = xs.set a.toNat z := rfl
@[simp] theorem s_rep : Env.std.rep α a z = List.replicate a.toNat z := rfl
@[simp] theorem s_tk : Env.std.tk α xs a = xs.take a.toNat := rfl
@[simp] theorem s_wnd : Env.std.wnd α xs a b = (xs.drop a.toNat).take b.toNat := rfl
@[simp] theorem s_app : Env.std.app α xs ys = xs ++ ys := rfl
@[simp] theorem s_len : Env.std.len α xs = (xs.length : Int) := rfl
end
@[simp] theorem s_nc (j : Nat) : @NatCast.natCast Int _ j = (j : Int) := rfl
@[simp] theorem s_on (j : Nat) : Int.ofNat j = (j : Int) := rfl
@[simp] theorem nz_quo (b : Int) : Env.std.nz .quo b = (b ≠ 0) := rfl
@[simp] theorem nz_rem (b : Int) : Env.std.nz .rem b = (b ≠ 0) := rfl
@[simp] theorem nz_shl (b : Int) : Env.std.nz .shl b = (0 <= b) := rfl
@[simp] theorem nz_shr (b : Int) : Env.std.nz .shr b = (0 <= b) := rfl
end Go.Proofs.YtfdealobplcboaaGreat.Sx

set_option linter.unusedVariables false
set_option linter.unusedSimpArgs false
set_option maxRecDepth 100000
namespace Go.Proofs.YtfdealobplcboaaGreat.Sx
abbrev cU := cInt .u32
theorem trim_con (xs : List Int) (hb : xs.length <= 1099511627776) : Con Tryz.prog 207 [.ro cU xs] (.arg 0 (tlen xs)) := by
 refine Con.of ttOk mixed Tryz.func207 {} .nil 0 (by kernel_rfl) (fun P' E hP hE => ?_)
 obtain ⟨k, hk⟩ : ∃ k, k = xs.length := ⟨_, rfl⟩
 obtain ⟨m, hm⟩ : ∃ m, m = tlen xs := ⟨_, rfl⟩
 rw [<- hm]
 cbv
 refine LoopTo.by (ι := Nat) (fun n => [(0, .s 0 n)]) (fun _ => []) (fun n => n <= xs.length /\ ∀ i, n <= i -> xs.getD i 0 = 0) (fun n => n) k [] ⟨Nat.le_of_eq hk, fun i hi => ?_⟩ ?_ ?_
 ·rw [List.getD_eq_getElem?_getD, List.getElem?_eq_none (by omega)]; rfl
 ·cbv
  subst hE
  simp [hk]
 ·intro n hn
  cbv
  refine ⟨fun h1 => ?_, fun h1 => ?_⟩
  ·have hn0 : 0 < n := by subst hE; simpa using h1
   obtain ⟨j, rfl⟩ : ∃ j, n = j + 1 := ⟨n - 1, by omega⟩
   have hw : IntKind.i64.wrap (j : Int) = j := w64 (by omega) (by omega)
   cbv
   refine ⟨?_, ?_⟩
   ·subst hE
    simp [hw]; omega
   cbv
   refine ⟨fun h2 => ?_, fun h2 => ?_⟩
   ·cbv
    refine ⟨?_, ?_⟩
    ·subst hE
     simp [hw]; omega
    cbv
    refine ⟨j, [], ⟨by omega, fun i hi => ?_⟩, by omega, ?_⟩
    ·by_cases hi' : j + 1 <= i
     ·exact hn.2 i hi'
     ·have e : i = j := by omega
      subst e
      subst hE
      simpa [hw] using h2
    ·cbv
     subst hE
     simp [hw]
   ·cbv
    subst hE
    rw [hm, tlen_eq hn.1 hn.2 (.inr (by simpa [hw] using h2))]
  ·cbv
   have hn0 : n = 0 := by subst hE; simpa using h1
   rw [hm, tlen_eq hn.1 hn.2 (.inl hn0)]
end Go.Proofs.YtfdealobplcboaaGreat.Sx

set_option linter.unusedVariables false
set_option linter.unusedSimpArgs false
namespace Go.Proofs.YtfdealobplcboaaGreat.Sx
/-- The value of digits, the greatest one first. -/
def dv (l : List UInt8) : Nat := l.foldl (fun n d => n * 256 + d.toNat) 0
def bv (s : ByteArray) : Nat := dv s.data.toList
/-- The digits of a number, without zeros before it. -/
def mgl (n : Nat) : List UInt8 :=
 if h : n = 0 then [] else mgl (n / 256) ++ [UInt8.ofNat (n % 256)]
 termination_by n
 decreasing_by omega
def mg (n : Nat) : ByteArray := ⟨(mgl n).toArray⟩
theorem mgl_zero : mgl 0 = [] := by rw [mgl]; simp
theorem mgl_pos {n : Nat} (h : n ≠ 0) : mgl n = mgl (n / 256) ++ [UInt8.ofNat (n % 256)] := by rw [mgl]; simp [h]
theorem dv_snoc (l : List UInt8) (d : UInt8) : dv (l ++ [d]) = dv l * 256 + d.toNat := by simp [dv]
theorem dv_from : ∀ (l : List UInt8) (a : Nat), l.foldl (fun n d => n * 256 + d.toNat) a = a * 256 ^ l.length + dv l
 | [], a => by simp [dv]
 | d :: l, a => by
  simp only [List.foldl_cons, dv, Nat.zero_mul, Nat.zero_add, List.length_cons]
  rw [dv_from l, dv_from l d.toNat, Nat.pow_succ]
  grind
theorem dv_app (l m : List UInt8) : dv (l ++ m) = dv l * 256 ^ m.length + dv m := by
 simp only [dv, List.foldl_append]
 exact dv_from m _
theorem dv_cons (d : UInt8) (l : List UInt8) : dv (d :: l) = d.toNat * 256 ^ l.length + dv l := by
 have := dv_app [d] l
 simpa [dv] using this
theorem dv_cons0 (l : List UInt8) : dv (0 :: l) = dv l := by simp [dv]
theorem dv_lt : ∀ l : List UInt8, dv l < 256 ^ l.length
 | [] => by simp [dv]
 | d :: l => by
  have h1 := dv_lt l
  have h2 : d.toNat < 256 := d.toNat_lt
  rw [dv_cons, List.length_cons, Nat.pow_succ]
  have h3 : d.toNat * 256 ^ l.length <= 255 * 256 ^ l.length := Nat.mul_le_mul_right _ (by omega)
  omega
theorem dv_mgl (n : Nat) : dv (mgl n) = n := by
 induction n using Nat.strongRecOn with
 | ind n ih =>
  by_cases h : n = 0
  ·subst h; rw [mgl_zero]; rfl
  ·rw [mgl_pos h, dv_snoc, ih _ (by omega)]
   have : (UInt8.ofNat (n % 256)).toNat = n % 256 := by simp
   rw [this]; omega
theorem mgl_head (n : Nat) : ∀ d l, mgl n = d :: l -> d ≠ 0 := by
 induction n using Nat.strongRecOn with
 | ind n ih =>
  intro d l h
  by_cases h0 : n = 0
  ·subst h0; rw [mgl_zero] at h; cases h
  ·rw [mgl_pos h0] at h
   by_cases h1 : n / 256 = 0
   ·rw [h1, mgl_zero] at h
    simp at h
    rw [<- h.1]
    intro e
    have := congrArg UInt8.toNat e
    simp at this
    omega
   ·cases hm : mgl (n / 256) with
    | nil => rw [mgl_pos h1] at hm; simp at hm
    | cons d' l' =>
     rw [hm] at h
     simp at h
     have := ih (n / 256) (by omega) d' l' hm
     rw [<- h.1]; exact this
theorem mgl_dv : ∀ (k : Nat) (l : List UInt8), l.length = k -> (∀ d m, l = d :: m -> d ≠ 0) -> mgl (dv l) = l := by
 intro k
 induction k with
 | zero => intro l h _; have : l = [] := List.eq_nil_of_length_eq_zero h; subst this; exact mgl_zero
 | succ k ih =>
  intro l h hd
  rcases List.eq_nil_or_concat l with rfl | ⟨m, d, rfl⟩
  ·simp at h
  ·rw [List.concat_eq_append] at *
   have hm : m.length = k := by simpa using h
   have hpos : dv (m ++ [d]) ≠ 0 := by
    rw [dv_snoc]
    cases m with
    | nil =>
     have := hd d [] rfl
     have h2 : d.toNat ≠ 0 := fun e => this (UInt8.toNat_inj.1 (by simpa using e))
     simp [dv]; exact h2
    | cons c m =>
     have := hd c (m ++ [d]) rfl
     have h2 : c.toNat ≠ 0 := fun e => this (UInt8.toNat_inj.1 (by simpa using e))
     rw [dv_cons]
     have h3 : 0 < c.toNat * 256 ^ m.length := Nat.mul_pos (by omega) (Nat.pow_pos (by decide))
     omega
   rw [mgl_pos hpos, dv_snoc]
   have h2 : d.toNat < 256 := d.toNat_lt
   have e1 : (dv m * 256 + d.toNat) / 256 = dv m := by omega
   have e2 : (dv m * 256 + d.toNat) % 256 = d.toNat := by omega
   rw [e1, e2, ih m hm (fun c r hc => hd c (r ++ [d]) (by rw [hc]; rfl))]
   simp
theorem bv_mg (n : Nat) : bv (mg n) = n := dv_mgl n
theorem sq_iff {a b : ByteArray} : Env.std.sq a b = decide (a = b) := by
 simp only [Env.std]
 have e : a.toList = b.toList ↔ a = b := ⟨fun h => by rw [ByteArray.toList_eq, ByteArray.toList_eq] at h; exact ByteArray.ext (Array.ext' h), fun h => by rw [h]⟩
 by_cases h : a = b
 ·simp [h]
 ·have : ¬ a.toList = b.toList := fun h2 => h (e.1 h2)
  simp [h, this]
/-- The digits of a string. -/
def dg (s : ByteArray) : List UInt8 := s.data.toList
theorem dg_ext {a b : ByteArray} (h : dg a = dg b) : a = b := ByteArray.ext (Array.ext' h)
theorem dg_size (s : ByteArray) : s.size = (dg s).length := by
 unfold dg; rw [Array.length_toList]; rfl
theorem dg_mg (n : Nat) : dg (mg n) = mgl n := rfl
theorem dg_extract (s : ByteArray) (i j : Nat) : dg (s.extract i j) = ((dg s).take j).drop i := by
 simp [dg, ByteArray.data_extract]
 rw [List.drop_take]
theorem dg_get (s : ByteArray) (i : Nat) : (s[i]?).getD 0 = (dg s).getD i 0 := by
 rw [List.getD_eq_getElem?_getD]
 by_cases h : i < s.size
 ·rw [getElem?_pos s i h]
  have h' : i < (dg s).length := by rw [<- dg_size]; exact h
  rw [List.getElem?_eq_getElem h']
  rfl
 ·rw [getElem?_neg s i h, List.getElem?_eq_none (by rw [<- dg_size]; omega)]
end Go.Proofs.YtfdealobplcboaaGreat.Sx

set_option linter.unusedVariables false
set_option linter.unusedSimpArgs false
set_option maxRecDepth 100000
namespace Go.Proofs.YtfdealobplcboaaGreat.Sx
theorem strip_con (s : ByteArray) (hb : s.size <= 1099511627776) : Con Tryz.prog 206 [.v (.string s)] (.v (.string (mg (bv s)))) := by
 refine Con.of ttOk mixed Tryz.func206 {} .nil 0 (by kernel_rfl) (fun P' E hP hE => ?_)
 obtain ⟨m, hm⟩ : ∃ m, m = mg (bv s) := ⟨_, rfl⟩
 rw [<- hm]
 cbv
 refine LoopTo.by (ι := ByteArray) (fun t => [(0, .v (.string t))]) (fun _ => []) (fun t => bv t = bv s /\ t.size <= s.size) (fun t => t.size) s [] ⟨rfl, Nat.le_refl _⟩ ?_ ?_
 ·cbv
  simp
 ·intro t ht
  obtain ⟨u, hu⟩ : ∃ u, u = t.extract 1 t.size := ⟨_, rfl⟩
  cbv
  have hq : ∀ z : ByteArray, z = ⟨#[]⟩ -> (Env.std.sq t z = decide (t.size = 0)) := by
   intro z hz
   rw [sq_iff, hz]
   by_cases h : t.size = 0
   ·have : t = ⟨#[]⟩ := ByteArray.ext (Array.eq_empty_of_size_eq_zero h)
    simp [this]
    rfl
   ·have : ¬ t = ⟨#[]⟩ := by rintro rfl; exact h rfl
    simp [h, this]
  refine ⟨fun h1 => ?_, fun h1 => ?_⟩
  ·have hne : t.size ≠ 0 := by subst hE; have h : Env.std.bn (Env.std.sq t ⟨#[]⟩) = _ := h1; rw [s_bn, hq _ rfl] at h; simpa using h
   cbv
   refine ⟨?_, ?_⟩
   ·subst hE; simp; omega
   cbv
   refine ⟨fun h2 => ?_, fun h2 => ?_⟩
   ·cbv
    refine ⟨?_, ?_⟩
    ·subst hE; simp; omega
    cbv
    have hu1 : dg u = (dg t).drop 1 := by rw [hu, dg_extract, List.take_of_length_le (by rw [<- dg_size]; exact Nat.le_refl _)]
    have hu2 : u.size = t.size - 1 := by rw [dg_size, hu1, List.length_drop, <- dg_size]
    have hd : (dg t).getD 0 0 = 0 := by
     subst hE
     have h : Env.std.ic .eql (Env.std.sa t 0) 0 = true := h2
     rw [s_eql, s_sa, dg_get] at h
     have h : ((dg t).getD 0 0).toNat = 0 := by simpa using h
     exact UInt8.toNat_inj.1 h
    refine ⟨u, [], ⟨?_, by omega⟩, by omega, ?_⟩
    ·rw [<- ht.1]
     show dv (dg u) = dv (dg t)
     rw [hu1]
     have : 0 < (dg t).length := by rw [<- dg_size]; omega
     cases e : dg t with
     | nil => rfl
     | cons d l => rw [e] at hd; simp at hd; subst hd; rw [dv_cons0]; rfl
    ·cbv
     subst hE
     simp [hu]
   ·cbv
    have hd : ∀ d l, dg t = d :: l -> d ≠ 0 := by
     rintro d l h rfl
     subst hE
     have h3 : Env.std.ic .eql (Env.std.sa t 0) 0 = false := h2
     rw [s_eql, s_sa, dg_get] at h3
     simp [h] at h3
    rw [hm, <- ht.1]
    congr 1
    refine dg_ext ?_
    rw [dg_mg]
    exact (mgl_dv _ _ rfl hd).symm
  ·cbv
   have hz : t.size = 0 := by subst hE; have h : Env.std.bn (Env.std.sq t ⟨#[]⟩) = _ := h1; rw [s_bn, hq _ rfl] at h; simpa using h
   have : t = ⟨#[]⟩ := ByteArray.ext (Array.eq_empty_of_size_eq_zero hz)
   rw [hm, <- ht.1, this]
   congr 1
   refine dg_ext ?_
   rw [dg_mg]
   exact mgl_zero.symm
end Go.Proofs.YtfdealobplcboaaGreat.Sx

set_option linter.unusedVariables false
set_option linter.unusedSimpArgs false
namespace Go.Proofs.YtfdealobplcboaaGreat.Sx
theorem val_set : ∀ (xs : List Int) (j : Nat) (v : Int), j < xs.length -> val (xs.set j v) = val xs + (v - xs.getD j 0) * 4294967296 ^ j
 | [], j, v, h => by simp at h
 | x :: xs, 0, v, h => by simp [val]; omega
 | x :: xs, j + 1, v, h => by
  have ih := val_set xs j v (by simpa using h)
  simp only [List.set_cons_succ, val, ih, Int.pow_succ]
  have : (x :: xs).getD (j + 1) 0 = xs.getD j 0 := by simp
  rw [this]
  grind
theorem pow_pos32 (j : Nat) : (0 : Int) < 4294967296 ^ j := Int.pow_pos (by decide)
theorem pow_mono32 {i j : Nat} (h : i <= j) : (4294967296 : Int) ^ i <= 4294967296 ^ j := by
 obtain ⟨d, rfl⟩ := Nat.le.dest h
 rw [Int.pow_add]
 have h1 := pow_pos32 d
 have h2 := pow_pos32 i
 have := Int.mul_le_mul_of_nonneg_left (show (1 : Int) <= 4294967296 ^ d by omega) (show (0 : Int) <= 4294967296 ^ i by omega)
 omega
theorem val_ge : ∀ {xs : List Int}, Ok32 xs -> ∀ j : Nat, xs.getD j 0 * 4294967296 ^ j <= val xs
 | [], _, j => by simp [val]
 | x :: xs, h, 0 => by
  have := val_nonneg h.tail
  simp [val]; omega
 | x :: xs, h, j + 1 => by
  have ih := val_ge h.tail j
  have hx := h.head
  have : (x :: xs).getD (j + 1) 0 = xs.getD j 0 := by simp
  simp only [val, this, Int.pow_succ]
  have e : xs.getD j 0 * (4294967296 ^ j * 4294967296) = 4294967296 * (xs.getD j 0 * 4294967296 ^ j) := by grind
  rw [e]; omega
theorem get_lt {xs : List Int} (h : Ok32 xs) {j : Nat} {b : Int} (hv : val xs < 4294967296 ^ j * b) : xs.getD j 0 < b := by
 have h1 := val_ge h j
 have h2 := pow_pos32 j
 by_cases hb : xs.getD j 0 < b
 ·exact hb
 ·exfalso
  have h3 : 4294967296 ^ j * b <= 4294967296 ^ j * xs.getD j 0 := Int.mul_le_mul_of_nonneg_left (by omega) (by omega)
  have e : 4294967296 ^ j * xs.getD j 0 = xs.getD j 0 * 4294967296 ^ j := Int.mul_comm _ _
  omega
/-- Without zeros at its end. -/
theorem lb_of_ge {xs : List Int} (h : Ok32 xs) (hv : xs = [] \/ 4294967296 ^ (xs.length - 1) <= val xs) : xs = lb (val xs).toNat := by
 have h1 := take_tlen h
 have h2 := tlen_le xs
 rcases hv with rfl | hv
 ·simpa [tlen] using h1
 ·by_cases ht : tlen xs = xs.length
  ·rw [ht, List.take_length] at h1; exact h1
  ·exfalso
   have h3 : val xs < 4294967296 ^ tlen xs := by
    have h4 : val (xs.take (tlen xs)) = val xs := by
     rw [h1, val_lb]
     have := val_nonneg h
     omega
    have h5 := val_lt (h.take (tlen xs))
    rw [h4, List.length_take, Nat.min_eq_left h2] at h5
    exact h5
   have h6 : (4294967296 : Int) ^ tlen xs <= 4294967296 ^ (xs.length - 1) := pow_mono32 (by omega)
   omega
theorem or32 {a b : Int} (k : Nat) {c : Nat} (h0 : 0 <= a) (h1 : a < ((2 ^ k : Nat) : Int)) (hb : b = ((2 ^ k * c : Nat) : Int)) (h2 : a + b < 4294967296) : Env.std.ib .or .u32 a b = a + b := by
 have hb0 : 0 <= b := by omega
 have e1 : (BitVec.ofInt 32 a).toNat = a.toNat := by rw [BitVec.toNat_ofInt]; omega
 have e2 : (BitVec.ofInt 32 b).toNat = b.toNat := by rw [BitVec.toNat_ofInt]; omega
 have hk : a.toNat < 2 ^ k := by omega
 have hbn : b.toNat = 2 ^ k * c := by omega
 have e3 : (BitVec.ofInt 32 a ||| BitVec.ofInt 32 b).toNat = a.toNat + b.toNat := by
  rw [BitVec.toNat_or, e1, e2, hbn, Nat.or_comm, <- Nat.two_pow_add_eq_or_of_lt hk, Nat.add_comm]
 show IntKind.u32.wrap ((BitVec.ofInt 32 a ||| BitVec.ofInt 32 b).toNat : Int) = a + b
 rw [e3, wu32 (by omega) (by omega)]
 omega
theorem digit_at {l : List UInt8} {i : Nat} (h : i < l.length) : dv l / 256 ^ i % 256 = (l.getD (l.length - 1 - i) 0).toNat := by
 have hk : l.length - 1 - i < l.length := by omega
 have e : l = l.take (l.length - 1 - i) ++ (l[l.length - 1 - i] :: l.drop (l.length - 1 - i + 1)) := by
  rw [List.getElem_cons_drop]; exact (List.take_append_drop _ _).symm
 have hl : (l.drop (l.length - 1 - i + 1)).length = i := by rw [List.length_drop]; omega
 have hg : l.getD (l.length - 1 - i) 0 = l[l.length - 1 - i] := by rw [List.getD_eq_getElem?_getD, List.getElem?_eq_getElem hk]; rfl
 rw [hg]
 generalize l[l.length - 1 - i] = d at e
 generalize l.take (l.length - 1 - i) = a at e
 generalize l.drop (l.length - 1 - i + 1) = b at e hl
 have hb := dv_lt b
 rw [hl] at hb
 have hd : d.toNat < 256 := d.toNat_lt
 rw [e, dv_app, dv_cons, List.length_cons, hl, Nat.pow_succ]
 have e2 : dv a * (256 ^ i * 256) + (d.toNat * 256 ^ i + dv b) = dv b + 256 ^ i * (dv a * 256 + d.toNat) := by grind
 rw [e2, Nat.add_mul_div_left _ _ (Nat.pow_pos (by decide)), Nat.div_eq_of_lt hb]
 omega
theorem pow256 (i : Nat) : (256 : Nat) ^ i = 4294967296 ^ (i / 4) * 256 ^ (i % 4) := by
 have : (4294967296 : Nat) = 256 ^ 4 := by decide
 rw [this, <- Nat.pow_mul, <- Nat.pow_add]
 congr 1; omega
/-- One digit more. -/
theorem load_step {out : List Int} {i n d : Nat} (ho : Ok32 out) (hl : i / 4 < out.length) (hv : val out = ((n % 256 ^ i : Nat) : Int)) (hd : d = n / 256 ^ i % 256) :
  Env.std.ib .or .u32 (out.getD (i / 4) 0) ((d * 256 ^ (i % 4) : Nat) : Int) = out.getD (i / 4) 0 + ((d * 256 ^ (i % 4) : Nat) : Int) /\
  0 <= out.getD (i / 4) 0 + ((d * 256 ^ (i % 4) : Nat) : Int) /\ out.getD (i / 4) 0 + ((d * 256 ^ (i % 4) : Nat) : Int) < 4294967296 /\
  val (out.set (i / 4) (out.getD (i / 4) 0 + ((d * 256 ^ (i % 4) : Nat) : Int))) = ((n % 256 ^ (i + 1) : Nat) : Int) := by
 have hdl : d < 256 := by rw [hd]; exact Nat.mod_lt _ (by decide)
 have hlt : n % 256 ^ i < 4294967296 ^ (i / 4) * 256 ^ (i % 4) := by rw [<- pow256]; exact Nat.mod_lt _ (Nat.pow_pos (by decide))
 have h0 := ho.get (i / 4)
 have hold : out.getD (i / 4) 0 < ((256 ^ (i % 4) : Nat) : Int) := by
  refine get_lt ho (j := i / 4) ?_
  rw [hv]
  have : ((n % 256 ^ i : Nat) : Int) < ((4294967296 ^ (i / 4) * 256 ^ (i % 4) : Nat) : Int) := by exact_mod_cast hlt
  rw [Int.natCast_mul, Int.natCast_pow] at this
  exact this
 have hr : i % 4 < 4 := Nat.mod_lt _ (by decide)
 have hsum : out.getD (i / 4) 0 + ((d * 256 ^ (i % 4) : Nat) : Int) < 4294967296 := by
  have h1 : d * 256 ^ (i % 4) <= 255 * 256 ^ (i % 4) := Nat.mul_le_mul_right _ (by omega)
  have h2 : 256 ^ (i % 4) <= 16777216 := by
   have : (i % 4) <= 3 := by omega
   exact Nat.le_trans (Nat.pow_le_pow_right (by decide) this) (by decide)
  omega
 have hpow : (256 : Nat) ^ (i % 4) = 2 ^ (8 * (i % 4)) := by rw [Nat.pow_mul]
 refine ⟨or32 (8 * (i % 4)) (c := d) h0.1 (by rw [<- hpow]; exact hold) (by rw [<- hpow, Nat.mul_comm]) hsum, by omega, hsum, ?_⟩
 rw [val_set _ _ _ hl, hv]
 have e1 : n % 256 ^ (i + 1) = n % 256 ^ i + 256 ^ i * d := by rw [hd, Nat.pow_succ, Nat.mod_mul]
 rw [e1, pow256 i]
 rw [Int.natCast_add, Int.natCast_mul, Int.natCast_mul, Int.natCast_mul, Int.natCast_pow]
 grind
theorem mgl_ge {n : Nat} (h : n ≠ 0) : 256 ^ ((mgl n).length - 1) <= n := by
 cases e : mgl n with
 | nil => rw [mgl_pos h] at e; simp at e
 | cons d l =>
  have h1 := mgl_head n d l e
  have h2 : d.toNat ≠ 0 := fun e => h1 (UInt8.toNat_inj.1 (by simpa using e))
  have h3 := dv_mgl n
  rw [e, dv_cons] at h3
  have h4 : 1 * 256 ^ l.length <= d.toNat * 256 ^ l.length := Nat.mul_le_mul_right _ (by omega)
  simp only [List.length_cons, Nat.add_sub_cancel]
  omega
theorem mgl_le {s : List UInt8} {n : Nat} (h : n = dv s) : (mgl n).length <= s.length := by
 by_cases h0 : n = 0
 ·rw [h0, mgl_zero]; exact Nat.zero_le _
 ·have h1 := mgl_ge h0
  have h2 := dv_lt s
  rw [<- h] at h2
  have h3 : 256 ^ ((mgl n).length - 1) < 256 ^ s.length := Nat.lt_of_le_of_lt h1 h2
  have h4 := (Nat.pow_lt_pow_iff_right (by decide)).1 h3
  omega
end Go.Proofs.YtfdealobplcboaaGreat.Sx

set_option linter.unusedVariables false
set_option linter.unusedSimpArgs false
set_option maxRecDepth 100000
set_option maxHeartbeats 4000000
namespace Go.Proofs.YtfdealobplcboaaGreat.Sx
theorem load_con (s : ByteArray) (hb : s.size <= 1099511627776) : Con Tryz.prog 164 [.v (.string s)] (.own 169 cU (lb (bv s))) := by
 refine Con.of ttOk mixed Tryz.func164 { ord := [(7, [0,1,2,3,4,5,6,7,8,9,10,11,12,13,14,15])] } .nil 0 (by kernel_rfl) (fun P' E hP hE => ?_)
 obtain ⟨t, ht⟩ : ∃ t, t = mg (bv s) := ⟨_, rfl⟩
 obtain ⟨r, hr⟩ : ∃ r, r = lb (bv s) := ⟨_, rfl⟩
 have hc := strip_con s hb
 rw [<- ht] at hc
 rw [<- hr]
 have hts : t.size <= 1099511627776 := by
  rw [ht, dg_size, dg_mg]
  exact Nat.le_trans (mgl_le (s := dg s) rfl) (by rw [<- dg_size]; exact hb)
 obtain ⟨L, hL⟩ : ∃ L, L = (t.size + 3) / 4 := ⟨_, rfl⟩
 obtain ⟨z, hz⟩ : ∃ z, z = List.replicate L (0 : Int) := ⟨_, rfl⟩
 have hLe : IntKind.i64.wrap ((IntKind.i64.wrap (IntKind.i64.wrap ((t.size : Int) + 4) - 1)).tdiv 4) = (L : Int) := by
  rw [w64 (n := (t.size : Int) + 4) (by omega) (by omega), w64 (n := (t.size : Int) + 4 - 1) (by omega) (by omega)]
  have e : (t.size : Int) + 4 - 1 = ((t.size + 3 : Nat) : Int) := by omega
  rw [e, td4, w64 (by omega) (by omega)]; omega
 cbv
 refine CallTo.con hP hE hc (by cbv <;> simp) ?_
 cbv
 refine ⟨by subst hE; simp, ?_⟩
 cbv
 refine ⟨?_, ?_⟩
 ·subst hE; simp [hLe]; omega
 cbv
 refine LoopTo.by (ι := Nat × List Int) (fun x => [(16, .v (.int .i64 x.1))]) (fun x => [(1, .row true 169 cU x.2)]) (fun x => x.1 <= t.size /\ x.2.length = L /\ Ok32 x.2 /\ val x.2 = ((bv s % 256 ^ x.1 : Nat) : Int)) (fun x => t.size - x.1) (0, z) [] ⟨Nat.zero_le _, by rw [hz]; simp, by rw [hz]; exact Ok32.rep _, by rw [hz, val_rep]; simp [Nat.mod_one]⟩ ?_ ?_
 ·cbv
  subst hE
  simp [hLe, hz]
 ·rintro ⟨i, out⟩ hi
  have hi1 : i <= t.size := hi.1
  have hi2 : out.length = L := hi.2.1
  have hi3 : Ok32 out := hi.2.2.1
  have hi4 : val out = ((bv s % 256 ^ i : Nat) : Int) := hi.2.2.2
  clear hi
  have hiq : IntKind.i64.wrap ((i : Int) / 4) = (i : Int) / 4 := w64 (by omega) (by omega)
  have hiw : IntKind.i64.wrap (8 * ((i : Int) % 4)) = 8 * ((i : Int) % 4) := w64 (by omega) (by omega)
  have hi1w : IntKind.i64.wrap ((i : Int) + 1) = (i : Int) + 1 := w64 (by omega) (by omega)
  cbv
  refine ⟨fun h1 => ?_, fun h1 => ?_⟩
  ·have hlt : i < t.size := by subst hE; simpa using h1
   have hk : IntKind.i64.wrap (IntKind.i64.wrap ((t.size : Int) - 1) - i) = ((t.size - 1 - i : Nat) : Int) := by
    rw [w64 (n := (t.size : Int) - 1) (by omega) (by omega), w64 (by omega) (by omega)]; omega
   cbv
   refine ⟨by subst hE; simp, ?_⟩
   cbv
   refine ⟨?_, ?_⟩
   ·subst hE; simp [hLe, hiq]; omega
   cbv
   refine ⟨?_, ?_⟩
   ·subst hE; simp [hk]; omega
   cbv
   refine ⟨by subst hE; simp, ?_⟩
   cbv
   refine ⟨?_, ?_⟩
   ·subst hE; simp [tm4, hiw]; omega
   cbv
   refine ⟨?_, ?_⟩
   ·subst hE; simp [hLe, hiq]; omega
   cbv
   obtain ⟨d, hd⟩ : ∃ d, d = ((dg t).getD (t.size - 1 - i) 0).toNat := ⟨_, rfl⟩
   obtain ⟨out', ho'⟩ : ∃ o, o = out.set (i / 4) (out.getD (i / 4) 0 + ((d * 256 ^ (i % 4) : Nat) : Int)) := ⟨_, rfl⟩
   have hbt : bv s = dv (dg t) := by rw [ht]; exact (bv_mg _).symm
   have hq4 : i / 4 < out.length := by omega
   obtain ⟨s1, s2, s3, s4⟩ := load_step (d := d) hi3 hq4 hi4 (by rw [hbt, digit_at (by rw [<- dg_size]; exact hlt), <- dg_size]; exact hd)
   rw [<- ho'] at s4
   refine ⟨(i + 1, out'), [], ⟨hlt, by rw [ho']; simp [hi2], by rw [ho']; exact hi3.set s2 s3 _, s4⟩, by show t.size - (i + 1) < t.size - i; omega, ?_⟩
   have hrow : Env.std.set Int out (Env.std.ib .quo .i64 i 4) (Env.std.ib .or .u32 (Env.std.get Int out (Env.std.ib .quo .i64 i 4) 0) (Env.std.ib .shl .u32 (Env.std.cv .u32 (Env.std.sa t (Env.std.ib .sub .i64 (Env.std.ib .sub .i64 (Env.std.sz t) 1) i))) (Env.std.ib .mul .i64 8 (Env.std.ib .rem .i64 i 4)))) = out' := by
    have q1 : Env.std.ib .quo .i64 i 4 = ((i / 4 : Nat) : Int) := by rw [s_quo, td4]; exact hiq
    have q2 : Env.std.ib .mul .i64 8 (Env.std.ib .rem .i64 i 4) = ((8 * (i % 4) : Nat) : Int) := by rw [s_mul, s_rem, tm4]; exact hiw
    have q3 : Env.std.sa t (Env.std.ib .sub .i64 (Env.std.ib .sub .i64 (Env.std.sz t) 1) i) = (d : Int) := by
     rw [s_sub, s_sub, s_sz, hk, s_sa, Int.toNat_natCast, dg_get, hd]
    have hdl : d < 256 := by rw [hd]; exact UInt8.toNat_lt _
    have q4 : Env.std.ib .shl .u32 (Env.std.cv .u32 (d : Int)) ((8 * (i % 4) : Nat) : Int) = ((d * 256 ^ (i % 4) : Nat) : Int) := by
     have hr4 : i % 4 < 4 := Nat.mod_lt _ (by decide)
     have hm : min (8 * (i % 4)) IntKind.u32.bits = 8 * (i % 4) := by
      have : IntKind.u32.bits = 32 := rfl
      omega
     have hp : (2 : Int) ^ (8 * (i % 4)) = ((256 ^ (i % 4) : Nat) : Int) := by rw [Int.pow_mul, Int.natCast_pow]; rfl
     rw [s_shl, s_cv, Int.toNat_natCast, hm, wu32 (n := (d : Int)) (by omega) (by omega), hp, wu32]
     ·rw [Int.natCast_mul]
     ·rw [<- Int.natCast_mul]; omega
     ·have h3 := (hi3.get (i / 4)).1
      rw [<- Int.natCast_mul]; omega
    rw [q1, q2, q3, q4, s_get, Int.toNat_natCast, s1, s_set, Int.toNat_natCast, ho']
   cbv
   subst hE
   and_intros
   all_goals first
    | exact Sm.of hrow
    | (simp [hi1w]; done)
  ·cbv
   refine Sm.of ?_
   have hit : i = t.size := by
    have : ¬ i < t.size := by subst hE; simpa using h1
    omega
   subst hE
   have hLE : Env.std.ib .quo .i64 (Env.std.ib .sub .i64 (Env.std.ib .add .i64 (Env.std.sz t) 4) 1) 4 = (L : Int) := hLe
   show Env.std.tk Int out (Env.std.ib .quo .i64 (Env.std.ib .sub .i64 (Env.std.ib .add .i64 (Env.std.sz t) 4) 1) 4) = r
   rw [hLE, s_tk, Int.toNat_natCast, <- hi2, List.take_length, hr]
   have hlt : bv s < 256 ^ t.size := by
    have := dv_lt (dg t)
    rw [<- dg_size] at this
    have e : dv (dg t) = bv s := by rw [ht]; exact bv_mg _
    rw [e] at this; exact this
   rw [hit, Nat.mod_eq_of_lt hlt] at hi4
   have := lb_of_ge hi3 ?_
   ·rw [hi4, Int.toNat_natCast] at this; exact this
   ·by_cases h0 : out = []
    ·exact .inl h0
    ·refine .inr ?_
     have hpos : t.size ≠ 0 := by
      intro h
      apply h0
      apply List.eq_nil_of_length_eq_zero
      omega
     have hge := mgl_ge (n := bv s) (by rw [ht, dg_size, dg_mg] at hpos; intro h; rw [h, mgl_zero] at hpos; exact hpos rfl)
     rw [<- dg_mg, <- ht, <- dg_size] at hge
     rw [hi4]
     have h4 : (4294967296 : Nat) ^ (out.length - 1) <= 256 ^ (t.size - 1) := by
      have : (4294967296 : Nat) = 256 ^ 4 := by decide
      rw [this, <- Nat.pow_mul]
      exact Nat.pow_le_pow_right (by decide) (by omega)
     have h5 : (((4294967296 : Nat) ^ (out.length - 1) : Nat) : Int) <= ((bv s : Nat) : Int) := by exact_mod_cast Nat.le_trans h4 hge
     rw [Int.natCast_pow] at h5
     exact h5
end Go.Proofs.YtfdealobplcboaaGreat.Sx

set_option linter.unusedVariables false
set_option linter.unusedSimpArgs false
set_option maxRecDepth 100000
set_option maxHeartbeats 4000000
namespace Go.Proofs.YtfdealobplcboaaGreat.Sx
def by8 (bs : List Int) : List UInt8 := bs.map fun n => UInt8.ofNat n.toNat
theorem by8_app (a b : List Int) : by8 (a ++ b) = by8 a ++ by8 b := by simp [by8]
theorem bytes4 {x : Int} (h0 : 0 <= x) (h1 : x < 4294967296) : dv (by8 [x / 16777216 % 256, x / 65536 % 256, x / 256 % 256, x % 256]) = x.toNat := by
 have e : ∀ y : Int, 0 <= y -> y < 256 -> (UInt8.ofNat y.toNat).toNat = y.toNat := by
  intro y h0 h1
  rw [UInt8.toNat_ofNat']
  omega
 simp only [by8, dv, List.map_cons, List.map_nil, List.foldl_cons, List.foldl_nil]
 rw [e _ (by omega) (by omega), e _ (by omega) (by omega), e _ (by omega) (by omega), e _ (by omega) (by omega)]
 omega
theorem shr32 (x : Int) (k : Nat) (hk : k <= 32) : Env.std.cv .u8 (Env.std.ib .shr .u32 x (k : Int)) = x / 2 ^ k % 256 := by
 rw [s_cv, s_shr, IntKind.wrap_u8, Int.toNat_natCast]
 have : min k IntKind.u32.bits = k := by have : IntKind.u32.bits = 32 := rfl; omega
 rw [this, Int.fdiv_eq_ediv_of_nonneg _ (Int.pow_nonneg (by decide))]
theorem flat8 : ∀ bs : List Int, ((bs.flatMap fun x => [Value.int .u8 x]).map byteOf) = by8 bs
 | [] => rfl
 | b :: bs => by
  have ih := flat8 bs
  simp only [by8, List.flatMap_cons, List.map_append, List.map_cons, List.map_nil, ih] at ih ⊢
  rfl
theorem val_drop {xs : List Int} {i : Nat} (h : i < xs.length) : val (xs.drop i) = xs.getD i 0 + 4294967296 * val (xs.drop (i + 1)) := by
 rw [List.drop_eq_getElem_cons h, val, List.getD_eq_getElem?_getD, List.getElem?_eq_getElem h]; rfl
theorem store_con (xs : List Int) (hx : Ok32 xs) (hb : xs.length <= 137438953472) : Con Tryz.prog 208 [.ro cU xs] (.v (.string (mg (val xs).toNat))) := by
 refine Con.of ttOk mixed Tryz.func208 { ord := [(5, List.range 27)] } .nil 0 (by kernel_rfl) (fun P' E hP hE => ?_)
 obtain ⟨m, hm⟩ : ∃ m, m = mg (val xs).toNat := ⟨_, rfl⟩
 obtain ⟨n, hn⟩ : ∃ n : Int, n = (xs.length : Int) := ⟨_, rfl⟩
 obtain ⟨i0, hi0⟩ : ∃ i : Int, i = n - 1 := ⟨_, rfl⟩
 obtain ⟨l0, hl0⟩ : ∃ l : Int, l = 0 := ⟨_, rfl⟩
 obtain ⟨b0, hb0⟩ : ∃ b : List Int, b = [] := ⟨_, rfl⟩
 rw [<- hm]
 cbv
 refine LoopTo.nil 3 5 (cInt .u8) (cInt_ok _) rfl ?_
 refine LoopTo.by (ι := Int × Int × List Int) (fun x => [(4, .v (.int .i64 x.1)), (3, .s 1 x.2.1)]) (fun x => [(1, .row true 5 (cInt .u8) x.2.2)]) (fun x => -1 <= x.1 /\ x.1 < n /\ x.2.1 = 4 * (n - 1 - x.1) /\ x.2.2.length = x.2.1.toNat /\ dv (by8 x.2.2) = (val (xs.drop (x.1 + 1).toNat)).toNat) (fun x => (x.1 + 1).toNat) (i0, l0, b0) [] ?_ ?_ ?_
 ·replace hn : n = (xs.length : Int) := hn
  refine ⟨by show -1 <= i0; omega, by show i0 < n; omega, by show l0 = 4 * (n - 1 - i0); omega, by show b0.length = l0.toNat; simp [hb0, hl0], ?_⟩
  show dv (by8 b0) = (val (xs.drop (i0 + 1).toNat)).toNat
  rw [hb0, List.drop_eq_nil_of_le (by omega)]
  rfl
 ·replace hn : n = (xs.length : Int) := hn
  have hw : Env.std.ib .sub .i64 (Env.std.len Int xs) 1 = i0 := by
   rw [s_sub, s_len, <- hn, w64 (by omega) (by omega)]; exact hi0.symm
  cbv
  subst hE
  and_intros
  all_goals first
   | exact Sm.of hb0.symm
   | exact congrArg (fun x => AV.v (Value.int .i64 x)) hw
   | (simp [hl0]; done)
 ·rintro ⟨i, l, bs⟩ hi
  have h1 : -1 <= i := hi.1
  have h2 : i < n := hi.2.1
  have h3 : l = 4 * (n - 1 - i) := hi.2.2.1
  have h4 : bs.length = l.toNat := hi.2.2.2.1
  have h5 : dv (by8 bs) = (val (xs.drop (i + 1).toNat)).toNat := hi.2.2.2.2
  clear hi
  replace hn : n = (xs.length : Int) := hn
  have hin : 0 <= i -> Env.std.inb i (Env.std.len Int xs) := fun hi0 => by rw [s_inb, s_len, <- hn]; exact ⟨hi0, h2⟩
  cbv
  refine ⟨fun h6 => ?_, fun h6 => ?_⟩
  ·have hi0 : 0 <= i := by subst hE; simpa using h6
   have hin := hin hi0
   cbv
   refine ⟨by subst hE; exact hin, ?_⟩
   cbv
   refine ⟨by subst hE; simp, ?_⟩
   cbv
   refine ⟨by subst hE; exact hin, ?_⟩
   cbv
   refine ⟨by subst hE; simp, ?_⟩
   cbv
   refine ⟨by subst hE; exact hin, ?_⟩
   cbv
   refine ⟨by subst hE; simp, ?_⟩
   cbv
   refine ⟨by subst hE; exact hin, ?_⟩
   cbv
   replace hn : n = (xs.length : Int) := hn
   have hfit : Env.std.fits (l + 4) 1 := by rw [s_fits]; omega
   refine ⟨by subst hE; exact hfit, ?_⟩
   cbv
   replace hn : n = (xs.length : Int) := hn
   obtain ⟨x, hx'⟩ : ∃ x, x = xs.getD i.toNat 0 := ⟨_, rfl⟩
   obtain ⟨bs', hbs⟩ : ∃ b, b = bs ++ [x / 16777216 % 256, x / 65536 % 256, x / 256 % 256, x % 256] := ⟨_, rfl⟩
   obtain ⟨i', hi'⟩ : ∃ j, j = i - 1 := ⟨_, rfl⟩
   obtain ⟨l', hl'⟩ : ∃ j, j = l + 4 := ⟨_, rfl⟩
   have hxx := hx.get i.toNat
   rw [<- hx'] at hxx
   refine ⟨(i', l', bs'), [0, 3], ⟨by show -1 <= i'; omega, by show i' < n; omega, by show l' = 4 * (n - 1 - i'); omega, by show bs'.length = l'.toNat; rw [hbs, List.length_append]; simp; omega, ?_⟩, by show (i' + 1).toNat < (i + 1).toNat; omega, ?_⟩
   ·show dv (by8 bs') = (val (xs.drop (i' + 1).toNat)).toNat
    have e1 : (i' + 1).toNat = i.toNat := by omega
    have e2 : (i + 1).toNat = i.toNat + 1 := by omega
    rw [e1, val_drop (by omega), <- hx', hbs, by8_app, dv_app, h5, bytes4 hxx.1 hxx.2, e2]
    have hv := val_nonneg (hx.drop (i.toNat + 1))
    have : (by8 [x / 16777216 % 256, x / 65536 % 256, x / 256 % 256, x % 256]).length = 4 := rfl
    rw [this]
    omega
   ·have g1 : Env.std.get Int xs i 0 = x := hx'.symm
    have hrow : Env.std.app Int (Env.std.tk Int bs l) [Env.std.cv .u8 (Env.std.ib .shr .u32 (Env.std.get Int xs i 0) 24), Env.std.cv .u8 (Env.std.ib .shr .u32 (Env.std.get Int xs i 0) 16), Env.std.cv .u8 (Env.std.ib .shr .u32 (Env.std.get Int xs i 0) 8), Env.std.cv .u8 (Env.std.get Int xs i 0)] = bs' := by
     have q1 := shr32 x 24 (by omega)
     have q2 := shr32 x 16 (by omega)
     have q3 := shr32 x 8 (by omega)
     rw [g1, s_app, s_tk, List.take_of_length_le (by omega), hbs]
     congr 1
     refine List.cons_eq_cons.2 ⟨q1, List.cons_eq_cons.2 ⟨q2, List.cons_eq_cons.2 ⟨q3, List.cons_eq_cons.2 ⟨?_, rfl⟩⟩⟩⟩
     rw [s_cv, IntKind.wrap_u8]
    have hlr : ∀ a : List Int, a.length = 4 -> Env.std.ad l (Env.std.len Int a) = l' := by
     intro a ha
     rw [s_ad, s_len, ha, hl']; rfl
    have hir : Env.std.ib .sub .i64 i 1 = i' := by rw [s_sub, w64 (by omega) (by omega), hi']
    cbv
    subst hE
    and_intros
    all_goals first
     | exact Sm.of hrow
     | exact congrArg (fun x => AV.v (Value.int .i64 x)) hir
     | exact congrArg (AV.s 3) (hlr _ rfl)
     | (simp; done)
  ·obtain ⟨t, ht⟩ : ∃ t, t = (⟨(by8 bs).toArray⟩ : ByteArray) := ⟨_, rfl⟩
   replace hn : n = (xs.length : Int) := hn
   have hi0 : i = -1 := by
    have : ¬ 0 <= i := by subst hE; simpa using h6
    omega
   have ht2 : dg t = by8 bs := by rw [ht]; simp [dg]
   have hc := strip_con t (by rw [dg_size, ht2]; simp only [by8, List.length_map]; omega)
   have hbv : bv t = (val xs).toNat := by
    show dv (dg t) = _
    rw [ht2, h5, hi0]; rfl
   rw [hbv, <- hm] at hc
   have hstr : Env.std.b2s Int (fun x => [.int .u8 x]) (Env.std.tk Int bs l) = t := by
    rw [s_tk, List.take_of_length_le (by omega)]
    refine dg_ext ?_
    rw [ht2]
    show ((bs.flatMap fun x => [Value.int .u8 x]).map byteOf).toArray.toList = by8 bs
    exact flat8 bs
   cbv
   refine ⟨fun y => ⟨y, rfl⟩, ?_⟩
   cbv
   refine CallTo.con hP hE hc ?_ ?_
   ·subst hE
    exact ⟨congrArg Value.string hstr, trivial⟩
   ·cbv
end Go.Proofs.YtfdealobplcboaaGreat.Sx

set_option linter.unusedVariables false
set_option linter.unusedSimpArgs false
namespace Go.Proofs.YtfdealobplcboaaGreat.Sx
theorem lb_ge (n : Nat) : n ≠ 0 -> (4294967296 : Int) ^ ((lb n).length - 1) <= n := by
 induction n using Nat.strongRecOn with
 | ind n ih =>
  intro h
  rw [lb_pos h, List.length_cons, Nat.add_sub_cancel]
  by_cases h1 : n / 4294967296 = 0
  ·rw [h1, lb_zero]; simp; omega
  ·have ih := ih (n / 4294967296) (by omega) h1
   have h2 : (lb (n / 4294967296)).length = (lb (n / 4294967296)).length - 1 + 1 := by
    rw [lb_pos h1]; simp
   rw [h2, Int.pow_succ]
   generalize (4294967296 : Int) ^ ((lb (n / 4294967296)).length - 1) = p at ih
   omega
theorem lb_lt (n : Nat) : (n : Int) < 4294967296 ^ (lb n).length := by
 have := val_lt (lb_ok n)
 rw [val_lb] at this; exact this
theorem cmp_len {a b : Nat} (h : (lb a).length < (lb b).length) : a < b := by
 have h1 := lb_lt a
 have hb : b ≠ 0 := by rintro rfl; rw [lb_zero] at h; simp at h
 have h2 := lb_ge b hb
 have h3 : (4294967296 : Int) ^ (lb a).length <= 4294967296 ^ ((lb b).length - 1) := pow_mono32 (by omega)
 omega
theorem val_split {xs : List Int} {i : Nat} (h : i <= xs.length) : val xs = val (xs.take i) + 4294967296 ^ i * val (xs.drop i) := by
 have := val_append (xs.take i) (xs.drop i)
 rw [List.take_append_drop, List.length_take, Nat.min_eq_left h] at this
 exact this
theorem cmp_at {xs ys : List Int} (hx : Ok32 xs) (hy : Ok32 ys) {i : Nat} (hi : i < xs.length) (hl : xs.length = ys.length) (hd : xs.drop (i + 1) = ys.drop (i + 1)) (hlt : xs.getD i 0 < ys.getD i 0) : val xs < val ys := by
 have e1 : val (xs.drop i) = xs.getD i 0 + 4294967296 * val (xs.drop (i + 1)) := by
  rw [List.drop_eq_getElem_cons hi, val, List.getD_eq_getElem?_getD, List.getElem?_eq_getElem hi]; rfl
 have e2 : val (ys.drop i) = ys.getD i 0 + 4294967296 * val (ys.drop (i + 1)) := by
  have hi' : i < ys.length := by omega
  rw [List.drop_eq_getElem_cons hi', val, List.getD_eq_getElem?_getD, List.getElem?_eq_getElem hi']; rfl
 rw [val_split (xs := xs) (i := i) (by omega), val_split (xs := ys) (i := i) (by omega), e1, e2, hd]
 have h1 := val_lt (hx.take i)
 have h2 := val_nonneg (hy.take i)
 rw [List.length_take, Nat.min_eq_left (by omega)] at h1
 have hp := pow_pos32 i
 generalize (4294967296 : Int) ^ i = p at *
 generalize val (ys.drop (i + 1)) = t at *
 generalize ys.getD i 0 = y at *
 generalize xs.getD i 0 = x at *
 have h3 : p * (x + 1) <= p * y := Int.mul_le_mul_of_nonneg_left (by omega) (by omega)
 have e3 : p * (x + 4294967296 * t) = p * (x + 1) - p + p * (4294967296 * t) := by grind
 have e4 : p * (y + 4294967296 * t) = p * y + p * (4294967296 * t) := by grind
 omega
/-- The order of two numbers. -/
def cmpI (a b : Int) : Int := if a < b then -1 else if a > b then 1 else 0
end Go.Proofs.YtfdealobplcboaaGreat.Sx
