/- Part 12 of what the statement needs: an executor of Go texts, arithmetic, and contracts of the functions that are called. -/
import Derived.Test.YtkipmmiiackdaaaGreatCi1
import Derived.Test.YtkipmmiiackdaaaGreatCi11
import Derived.Test.YtkipmmiiackdaaaGreatProg
import Derived.KernelRfl
import Derived.Laws.BitsLemmas
import Derived.Laws.Bits64
import Derived.Laws.Strings
set_option linter.unusedSimpArgs false
set_option linter.unusedVariables false
set_option maxRecDepth 100000
namespace Go.Proofs.YtkipmmiiackdaaaGreat.Sx
open Env (std)
open Go.RowKit Go.Proofs.YtkipmmiiackdaaaGreatW.PrintWords
abbrev ti3:TI:={ kind:=5,sz:=1,zero:=[.int .i64 0],flds:=[],elem:=0,ik:=.i64,eq:=false,len:=0,bytes:=8,cd:=some (cInt .i64) }
abbrev ti4:TI:={ kind:=6,sz:=1,zero:=[.bool false],flds:=[],elem:=0,ik:=.i64,eq:=false,len:=0,bytes:=1,cd:=some cBool }
abbrev ti9:TI:={ kind:=4,sz:=1,zero:=[.string ⟨#[]⟩],flds:=[],elem:=0,ik:=.i64,eq:=false,len:=0,bytes:=16,cd:=some cStr }
abbrev ti5:TI:={ kind:=5,sz:=1,zero:=[.int .u8 0],flds:=[],elem:=0,ik:=.u8,eq:=false,len:=0,bytes:=1,cd:=some (cInt .u8) }
abbrev ti193:TI:={ kind:=5,sz:=1,zero:=[.int .u64 0],flds:=[],elem:=0,ik:=.u64,eq:=false,len:=0,bytes:=8,cd:=some (cInt .u64) }
abbrev ti195:TI:={ kind:=5,sz:=1,zero:=[.int .u32 0],flds:=[],elem:=0,ik:=.u32,eq:=false,len:=0,bytes:=4,cd:=some (cInt .u32) }
abbrev ti25:TI:={ kind:=5,sz:=1,zero:=[.int .i64 0],flds:=[],elem:=0,ik:=.i64,eq:=false,len:=0,bytes:=8,cd:=some (cInt .i64) }
abbrev ti31:TI:={ kind:=1,sz:=3,zero:=[.bool false,.string ⟨#[]⟩,.string ⟨#[]⟩],flds:=[(0,1,false),(1,1,false),(2,1,false)],elem:=0,ik:=.i64,eq:=true,len:=0,bytes:=40,cd:=some cR }
abbrev ti122:TI:={ kind:=1,sz:=2,zero:=[.bool false,.string ⟨#[]⟩],flds:=[(0,1,false),(1,1,false)],elem:=0,ik:=.i64,eq:=true,len:=0,bytes:=24,cd:=some cZ }
abbrev ti127:TI:={ kind:=1,sz:=4,zero:=[.bool false,.string ⟨#[]⟩,.bool false,.string ⟨#[]⟩],flds:=[(0,2,true),(2,2,true)],elem:=0,ik:=.i64,eq:=true,len:=0,bytes:=48,cd:=none }
abbrev ti33:TI:={ kind:=1,sz:=6,zero:=[.bool false,.string ⟨#[]⟩,.string ⟨#[]⟩,.bool false,.string ⟨#[]⟩,.string ⟨#[]⟩],flds:=[(0,3,true),(3,3,true)],elem:=0,ik:=.i64,eq:=true,len:=0,bytes:=80,cd:=some cP }
abbrev ti52:TI:={ kind:=1,sz:=12,zero:=[.bool false,.string ⟨#[]⟩,.string ⟨#[]⟩,.bool false,.string ⟨#[]⟩,.string ⟨#[]⟩,.bool false,.string ⟨#[]⟩,.string ⟨#[]⟩,.bool false,.string ⟨#[]⟩,.string ⟨#[]⟩],flds:=[(0,6,true),(6,6,true)],elem:=0,ik:=.i64,eq:=true,len:=0,bytes:=160,cd:=some cS }
abbrev ti58:TI:={ kind:=1,sz:=12,zero:=[.bool false,.string ⟨#[]⟩,.string ⟨#[]⟩,.bool false,.string ⟨#[]⟩,.string ⟨#[]⟩,.bool false,.string ⟨#[]⟩,.string ⟨#[]⟩,.bool false,.string ⟨#[]⟩,.string ⟨#[]⟩],flds:=[(0,6,true),(6,6,true)],elem:=0,ik:=.i64,eq:=true,len:=0,bytes:=160,cd:=none }
abbrev ti22:TI:={ kind:=3,sz:=1,zero:=[.slice none 0 0],flds:=[],elem:=33,ik:=.i64,eq:=false,len:=0,bytes:=24,cd:=none }
abbrev ti112:TI:={ kind:=3,sz:=1,zero:=[.slice none 0 0],flds:=[],elem:=31,ik:=.i64,eq:=false,len:=0,bytes:=24,cd:=none }
abbrev ti49:TI:={ kind:=3,sz:=1,zero:=[.slice none 0 0],flds:=[],elem:=52,ik:=.i64,eq:=false,len:=0,bytes:=24,cd:=none }
abbrev ti68:TI:={ kind:=3,sz:=1,zero:=[.slice none 0 0],flds:=[],elem:=22,ik:=.i64,eq:=false,len:=0,bytes:=24,cd:=none }
abbrev ti168:TI:={ kind:=3,sz:=1,zero:=[.slice none 0 0],flds:=[],elem:=3,ik:=.i64,eq:=false,len:=0,bytes:=24,cd:=none }
abbrev ti198:TI:={ kind:=3,sz:=1,zero:=[.slice none 0 0],flds:=[],elem:=195,ik:=.i64,eq:=false,len:=0,bytes:=24,cd:=none }
abbrev ti149:TI:={ kind:=3,sz:=1,zero:=[.slice none 0 0],flds:=[],elem:=5,ik:=.i64,eq:=false,len:=0,bytes:=24,cd:=none }
abbrev ti250:TI:={ kind:=2,sz:=8,zero:=[.int .u8 0,.int .u8 0,.int .u8 0,.int .u8 0,.int .u8 0,.int .u8 0,.int .u8 0,.int .u8 0],flds:=[],elem:=5,ik:=.i64,eq:=false,len:=8,bytes:=8,cd:=none }
theorem shape_bool_string_string (l:List Value) (h0:shape [.bool false,.string ⟨#[]⟩,.string ⟨#[]⟩] l=true):∃ (a0:Bool) (a1:ByteArray) (a2:ByteArray),l=[.bool a0,.string a1,.string a2]:=by
 obtain ⟨a0,l0,rfl,h1⟩:=shape_bool h0
 obtain ⟨a1,l1,rfl,h2⟩:=shape_string h1
 obtain ⟨a2,l2,rfl,h3⟩:=shape_string h2
 obtain rfl:=shape_nil h3
 exact ⟨a0,a1,a2,rfl⟩
theorem shape_bool_string (l:List Value) (h0:shape [.bool false,.string ⟨#[]⟩] l=true):∃ (a0:Bool) (a1:ByteArray),l=[.bool a0,.string a1]:=by
 obtain ⟨a0,l0,rfl,h1⟩:=shape_bool h0
 obtain ⟨a1,l1,rfl,h2⟩:=shape_string h1
 obtain rfl:=shape_nil h2
 exact ⟨a0,a1,rfl⟩
theorem shape_bool_string_bool_string (l:List Value) (h0:shape [.bool false,.string ⟨#[]⟩,.bool false,.string ⟨#[]⟩] l=true):∃ (a0:Bool) (a1:ByteArray) (a2:Bool) (a3:ByteArray),l=[.bool a0,.string a1,.bool a2,.string a3]:=by
 obtain ⟨a0,l0,rfl,h1⟩:=shape_bool h0
 obtain ⟨a1,l1,rfl,h2⟩:=shape_string h1
 obtain ⟨a2,l2,rfl,h3⟩:=shape_bool h2
 obtain ⟨a3,l3,rfl,h4⟩:=shape_string h3
 obtain rfl:=shape_nil h4
 exact ⟨a0,a1,a2,a3,rfl⟩
theorem shape_bool_string_string_bool_string_string (l:List Value) (h0:shape [.bool false,.string ⟨#[]⟩,.string ⟨#[]⟩,.bool false,.string ⟨#[]⟩,.string ⟨#[]⟩] l=true):∃ (a0:Bool) (a1:ByteArray) (a2:ByteArray) (a3:Bool) (a4:ByteArray) (a5:ByteArray),l=[.bool a0,.string a1,.string a2,.bool a3,.string a4,.string a5]:=by
 obtain ⟨a0,l0,rfl,h1⟩:=shape_bool h0
 obtain ⟨a1,l1,rfl,h2⟩:=shape_string h1
 obtain ⟨a2,l2,rfl,h3⟩:=shape_string h2
 obtain ⟨a3,l3,rfl,h4⟩:=shape_bool h3
 obtain ⟨a4,l4,rfl,h5⟩:=shape_string h4
 obtain ⟨a5,l5,rfl,h6⟩:=shape_string h5
 obtain rfl:=shape_nil h6
 exact ⟨a0,a1,a2,a3,a4,a5,rfl⟩
theorem shape_bool_string_string_bool_string_string_bool_string_string_bool_string_string (l:List Value) (h0:shape [.bool false,.string ⟨#[]⟩,.string ⟨#[]⟩,.bool false,.string ⟨#[]⟩,.string ⟨#[]⟩,.bool false,.string ⟨#[]⟩,.string ⟨#[]⟩,.bool false,.string ⟨#[]⟩,.string ⟨#[]⟩] l=true):∃ (a0:Bool) (a1:ByteArray) (a2:ByteArray) (a3:Bool) (a4:ByteArray) (a5:ByteArray) (a6:Bool) (a7:ByteArray) (a8:ByteArray) (a9:Bool) (a10:ByteArray) (a11:ByteArray),l=[.bool a0,.string a1,.string a2,.bool a3,.string a4,.string a5,.bool a6,.string a7,.string a8,.bool a9,.string a10,.string a11]:=by
 obtain ⟨a0,l0,rfl,h1⟩:=shape_bool h0
 obtain ⟨a1,l1,rfl,h2⟩:=shape_string h1
 obtain ⟨a2,l2,rfl,h3⟩:=shape_string h2
 obtain ⟨a3,l3,rfl,h4⟩:=shape_bool h3
 obtain ⟨a4,l4,rfl,h5⟩:=shape_string h4
 obtain ⟨a5,l5,rfl,h6⟩:=shape_string h5
 obtain ⟨a6,l6,rfl,h7⟩:=shape_bool h6
 obtain ⟨a7,l7,rfl,h8⟩:=shape_string h7
 obtain ⟨a8,l8,rfl,h9⟩:=shape_string h8
 obtain ⟨a9,l9,rfl,h10⟩:=shape_bool h9
 obtain ⟨a10,l10,rfl,h11⟩:=shape_string h10
 obtain ⟨a11,l11,rfl,h12⟩:=shape_string h11
 obtain rfl:=shape_nil h12
 exact ⟨a0,a1,a2,a3,a4,a5,a6,a7,a8,a9,a10,a11,rfl⟩
theorem eqA31 (d:Nat) (w:World) (x0 y0:Bool) (x1 y1:ByteArray) (x2 y2:ByteArray) :
  (Op.equalIn (d+2) 31 (.agg #[.bool x0,.string x1,.string x2]) (.agg #[.bool y0,.string y1,.string y2])).run Tryz.prog w=.ok (x0 == y0 && (x1.toList == y1.toList && (x2.toList == y2.toList))) w:=by
 refine eqA_of Tryz.underlying31 (by kernel_rfl) ?_
 refine eqf_cons (by rfl) (by go_simp; rfl) (by go_simp; rfl) (by go_simp) ?_
 refine eqf_cons (by rfl) (by go_simp; rfl) (by go_simp; rfl) (by go_simp) ?_
 exact eqf_last (by rfl) (by go_simp; rfl) (by go_simp; rfl) (by go_simp)
theorem eqT31 (xs ys:Array Value) (w:World) (x y:Operand) (hx:shape ti31.zero xs.toList=true) (hy:shape ti31.zero ys.toList=true) :
  (do eqGuard .eql 31 x y (.agg xs) (.agg ys); binOp .eql 31 (.agg xs) (.agg ys)).run Tryz.prog w=.ok (.bool (eqCells xs.toList ys.toList)) w /\
  (do eqGuard .neq 31 x y (.agg xs) (.agg ys); binOp .neq 31 (.agg xs) (.agg ys)).run Tryz.prog w=.ok (.bool (!eqCells xs.toList ys.toList)) w:=by
 obtain ⟨a0,a1,a2,hxs⟩:=shape_bool_string_string xs.toList hx
 obtain ⟨b0,b1,b2,hys⟩:=shape_bool_string_string ys.toList hy
 obtain rfl:xs=#[.bool a0,.string a1,.string a2]:=Array.ext' hxs
 obtain rfl:ys=#[.bool b0,.string b1,.string b2]:=Array.ext' hys
 have hg:∀ op,(eqGuard op 31 x y (.agg #[.bool a0,.string a1,.string a2]) (.agg #[.bool b0,.string b1,.string b2])).run Tryz.prog w=.ok () w:=fun op=>eqGuard_agg (by kernel_rfl) op x y _ _ w
 have he:=eqA31 9998 w a0 b0 a1 b1 a2 b2
 exact eq_both hg he (by simp only [eqCells,Bool.and_assoc,Bool.and_true])
theorem eqA122 (d:Nat) (w:World) (x0 y0:Bool) (x1 y1:ByteArray) :
  (Op.equalIn (d+2) 122 (.agg #[.bool x0,.string x1]) (.agg #[.bool y0,.string y1])).run Tryz.prog w=.ok (x0 == y0 && (x1.toList == y1.toList)) w:=by
 refine eqA_of Tryz.underlying122 (by kernel_rfl) ?_
 refine eqf_cons (by rfl) (by go_simp; rfl) (by go_simp; rfl) (by go_simp) ?_
 exact eqf_last (by rfl) (by go_simp; rfl) (by go_simp; rfl) (by go_simp)
theorem eqT122 (xs ys:Array Value) (w:World) (x y:Operand) (hx:shape ti122.zero xs.toList=true) (hy:shape ti122.zero ys.toList=true) :
  (do eqGuard .eql 122 x y (.agg xs) (.agg ys); binOp .eql 122 (.agg xs) (.agg ys)).run Tryz.prog w=.ok (.bool (eqCells xs.toList ys.toList)) w /\
  (do eqGuard .neq 122 x y (.agg xs) (.agg ys); binOp .neq 122 (.agg xs) (.agg ys)).run Tryz.prog w=.ok (.bool (!eqCells xs.toList ys.toList)) w:=by
 obtain ⟨a0,a1,hxs⟩:=shape_bool_string xs.toList hx
 obtain ⟨b0,b1,hys⟩:=shape_bool_string ys.toList hy
 obtain rfl:xs=#[.bool a0,.string a1]:=Array.ext' hxs
 obtain rfl:ys=#[.bool b0,.string b1]:=Array.ext' hys
 have hg:∀ op,(eqGuard op 122 x y (.agg #[.bool a0,.string a1]) (.agg #[.bool b0,.string b1])).run Tryz.prog w=.ok () w:=fun op=>eqGuard_agg (by kernel_rfl) op x y _ _ w
 have he:=eqA122 9998 w a0 b0 a1 b1
 exact eq_both hg he (by simp only [eqCells,Bool.and_assoc,Bool.and_true])
theorem eqA127 (d:Nat) (w:World) (x0 y0:Bool) (x1 y1:ByteArray) (x2 y2:Bool) (x3 y3:ByteArray) :
  (Op.equalIn (d+3) 127 (.agg #[.bool x0,.string x1,.bool x2,.string x3]) (.agg #[.bool y0,.string y1,.bool y2,.string y3])).run Tryz.prog w=.ok ((x0 == y0 && (x1.toList == y1.toList)) && ((x2 == y2 && (x3.toList == y3.toList)))) w:=by
 refine eqA_of Tryz.underlying127 (by kernel_rfl) ?_
 refine eqf_cons (by rfl) (by go_simp) (by go_simp) (eqA122 (d+0) w _ _ _ _) ?_
 exact eqf_last (by rfl) (by go_simp) (by go_simp) (eqA122 (d+0) w _ _ _ _)
theorem eqT127 (xs ys:Array Value) (w:World) (x y:Operand) (hx:shape ti127.zero xs.toList=true) (hy:shape ti127.zero ys.toList=true) :
  (do eqGuard .eql 127 x y (.agg xs) (.agg ys); binOp .eql 127 (.agg xs) (.agg ys)).run Tryz.prog w=.ok (.bool (eqCells xs.toList ys.toList)) w /\
  (do eqGuard .neq 127 x y (.agg xs) (.agg ys); binOp .neq 127 (.agg xs) (.agg ys)).run Tryz.prog w=.ok (.bool (!eqCells xs.toList ys.toList)) w:=by
 obtain ⟨a0,a1,a2,a3,hxs⟩:=shape_bool_string_bool_string xs.toList hx
 obtain ⟨b0,b1,b2,b3,hys⟩:=shape_bool_string_bool_string ys.toList hy
 obtain rfl:xs=#[.bool a0,.string a1,.bool a2,.string a3]:=Array.ext' hxs
 obtain rfl:ys=#[.bool b0,.string b1,.bool b2,.string b3]:=Array.ext' hys
 have hg:∀ op,(eqGuard op 127 x y (.agg #[.bool a0,.string a1,.bool a2,.string a3]) (.agg #[.bool b0,.string b1,.bool b2,.string b3])).run Tryz.prog w=.ok () w:=fun op=>eqGuard_agg (by kernel_rfl) op x y _ _ w
 have he:=eqA127 9997 w a0 b0 a1 b1 a2 b2 a3 b3
 exact eq_both hg he (by simp only [eqCells,Bool.and_assoc,Bool.and_true])
theorem eqA33 (d:Nat) (w:World) (x0 y0:Bool) (x1 y1:ByteArray) (x2 y2:ByteArray) (x3 y3:Bool) (x4 y4:ByteArray) (x5 y5:ByteArray) :
  (Op.equalIn (d+3) 33 (.agg #[.bool x0,.string x1,.string x2,.bool x3,.string x4,.string x5]) (.agg #[.bool y0,.string y1,.string y2,.bool y3,.string y4,.string y5])).run Tryz.prog w=.ok ((x0 == y0 && (x1.toList == y1.toList && (x2.toList == y2.toList))) && ((x3 == y3 && (x4.toList == y4.toList && (x5.toList == y5.toList))))) w:=by
 refine eqA_of Tryz.underlying33 (by kernel_rfl) ?_
 refine eqf_cons (by rfl) (by go_simp) (by go_simp) (eqA31 (d+0) w _ _ _ _ _ _) ?_
 exact eqf_last (by rfl) (by go_simp) (by go_simp) (eqA31 (d+0) w _ _ _ _ _ _)
theorem eqT33 (xs ys:Array Value) (w:World) (x y:Operand) (hx:shape ti33.zero xs.toList=true) (hy:shape ti33.zero ys.toList=true) :
  (do eqGuard .eql 33 x y (.agg xs) (.agg ys); binOp .eql 33 (.agg xs) (.agg ys)).run Tryz.prog w=.ok (.bool (eqCells xs.toList ys.toList)) w /\
  (do eqGuard .neq 33 x y (.agg xs) (.agg ys); binOp .neq 33 (.agg xs) (.agg ys)).run Tryz.prog w=.ok (.bool (!eqCells xs.toList ys.toList)) w:=by
 obtain ⟨a0,a1,a2,a3,a4,a5,hxs⟩:=shape_bool_string_string_bool_string_string xs.toList hx
 obtain ⟨b0,b1,b2,b3,b4,b5,hys⟩:=shape_bool_string_string_bool_string_string ys.toList hy
 obtain rfl:xs=#[.bool a0,.string a1,.string a2,.bool a3,.string a4,.string a5]:=Array.ext' hxs
 obtain rfl:ys=#[.bool b0,.string b1,.string b2,.bool b3,.string b4,.string b5]:=Array.ext' hys
 have hg:∀ op,(eqGuard op 33 x y (.agg #[.bool a0,.string a1,.string a2,.bool a3,.string a4,.string a5]) (.agg #[.bool b0,.string b1,.string b2,.bool b3,.string b4,.string b5])).run Tryz.prog w=.ok () w:=fun op=>eqGuard_agg (by kernel_rfl) op x y _ _ w
 have he:=eqA33 9997 w a0 b0 a1 b1 a2 b2 a3 b3 a4 b4 a5 b5
 exact eq_both hg he (by simp only [eqCells,Bool.and_assoc,Bool.and_true])
theorem eqA52 (d:Nat) (w:World) (x0 y0:Bool) (x1 y1:ByteArray) (x2 y2:ByteArray) (x3 y3:Bool) (x4 y4:ByteArray) (x5 y5:ByteArray) (x6 y6:Bool) (x7 y7:ByteArray) (x8 y8:ByteArray) (x9 y9:Bool) (x10 y10:ByteArray) (x11 y11:ByteArray) :
  (Op.equalIn (d+4) 52 (.agg #[.bool x0,.string x1,.string x2,.bool x3,.string x4,.string x5,.bool x6,.string x7,.string x8,.bool x9,.string x10,.string x11]) (.agg #[.bool y0,.string y1,.string y2,.bool y3,.string y4,.string y5,.bool y6,.string y7,.string y8,.bool y9,.string y10,.string y11])).run Tryz.prog w=.ok (((x0 == y0 && (x1.toList == y1.toList && (x2.toList == y2.toList))) && ((x3 == y3 && (x4.toList == y4.toList && (x5.toList == y5.toList))))) && (((x6 == y6 && (x7.toList == y7.toList && (x8.toList == y8.toList))) && ((x9 == y9 && (x10.toList == y10.toList && (x11.toList == y11.toList))))))) w:=by
 refine eqA_of Tryz.underlying52 (by kernel_rfl) ?_
 refine eqf_cons (by rfl) (by go_simp) (by go_simp) (eqA33 (d+0) w _ _ _ _ _ _ _ _ _ _ _ _) ?_
 exact eqf_last (by rfl) (by go_simp) (by go_simp) (eqA33 (d+0) w _ _ _ _ _ _ _ _ _ _ _ _)
theorem eqT52 (xs ys:Array Value) (w:World) (x y:Operand) (hx:shape ti52.zero xs.toList=true) (hy:shape ti52.zero ys.toList=true) :
  (do eqGuard .eql 52 x y (.agg xs) (.agg ys); binOp .eql 52 (.agg xs) (.agg ys)).run Tryz.prog w=.ok (.bool (eqCells xs.toList ys.toList)) w /\
  (do eqGuard .neq 52 x y (.agg xs) (.agg ys); binOp .neq 52 (.agg xs) (.agg ys)).run Tryz.prog w=.ok (.bool (!eqCells xs.toList ys.toList)) w:=by
 obtain ⟨a0,a1,a2,a3,a4,a5,a6,a7,a8,a9,a10,a11,hxs⟩:=shape_bool_string_string_bool_string_string_bool_string_string_bool_string_string xs.toList hx
 obtain ⟨b0,b1,b2,b3,b4,b5,b6,b7,b8,b9,b10,b11,hys⟩:=shape_bool_string_string_bool_string_string_bool_string_string_bool_string_string ys.toList hy
 obtain rfl:xs=#[.bool a0,.string a1,.string a2,.bool a3,.string a4,.string a5,.bool a6,.string a7,.string a8,.bool a9,.string a10,.string a11]:=Array.ext' hxs
 obtain rfl:ys=#[.bool b0,.string b1,.string b2,.bool b3,.string b4,.string b5,.bool b6,.string b7,.string b8,.bool b9,.string b10,.string b11]:=Array.ext' hys
 have hg:∀ op,(eqGuard op 52 x y (.agg #[.bool a0,.string a1,.string a2,.bool a3,.string a4,.string a5,.bool a6,.string a7,.string a8,.bool a9,.string a10,.string a11]) (.agg #[.bool b0,.string b1,.string b2,.bool b3,.string b4,.string b5,.bool b6,.string b7,.string b8,.bool b9,.string b10,.string b11])).run Tryz.prog w=.ok () w:=fun op=>eqGuard_agg (by kernel_rfl) op x y _ _ w
 have he:=eqA52 9996 w a0 b0 a1 b1 a2 b2 a3 b3 a4 b4 a5 b5 a6 b6 a7 b7 a8 b8 a9 b9 a10 b10 a11 b11
 exact eq_both hg he (by simp only [eqCells,Bool.and_assoc,Bool.and_true])
theorem eqA58 (d:Nat) (w:World) (x0 y0:Bool) (x1 y1:ByteArray) (x2 y2:ByteArray) (x3 y3:Bool) (x4 y4:ByteArray) (x5 y5:ByteArray) (x6 y6:Bool) (x7 y7:ByteArray) (x8 y8:ByteArray) (x9 y9:Bool) (x10 y10:ByteArray) (x11 y11:ByteArray) :
  (Op.equalIn (d+4) 58 (.agg #[.bool x0,.string x1,.string x2,.bool x3,.string x4,.string x5,.bool x6,.string x7,.string x8,.bool x9,.string x10,.string x11]) (.agg #[.bool y0,.string y1,.string y2,.bool y3,.string y4,.string y5,.bool y6,.string y7,.string y8,.bool y9,.string y10,.string y11])).run Tryz.prog w=.ok (((x0 == y0 && (x1.toList == y1.toList && (x2.toList == y2.toList))) && ((x3 == y3 && (x4.toList == y4.toList && (x5.toList == y5.toList))))) && (((x6 == y6 && (x7.toList == y7.toList && (x8.toList == y8.toList))) && ((x9 == y9 && (x10.toList == y10.toList && (x11.toList == y11.toList))))))) w:=by
 refine eqA_of Tryz.underlying58 (by kernel_rfl) ?_
 refine eqf_cons (by rfl) (by go_simp) (by go_simp) (eqA33 (d+0) w _ _ _ _ _ _ _ _ _ _ _ _) ?_
 exact eqf_last (by rfl) (by go_simp) (by go_simp) (eqA33 (d+0) w _ _ _ _ _ _ _ _ _ _ _ _)
theorem eqT58 (xs ys:Array Value) (w:World) (x y:Operand) (hx:shape ti58.zero xs.toList=true) (hy:shape ti58.zero ys.toList=true) :
  (do eqGuard .eql 58 x y (.agg xs) (.agg ys); binOp .eql 58 (.agg xs) (.agg ys)).run Tryz.prog w=.ok (.bool (eqCells xs.toList ys.toList)) w /\
  (do eqGuard .neq 58 x y (.agg xs) (.agg ys); binOp .neq 58 (.agg xs) (.agg ys)).run Tryz.prog w=.ok (.bool (!eqCells xs.toList ys.toList)) w:=by
 obtain ⟨a0,a1,a2,a3,a4,a5,a6,a7,a8,a9,a10,a11,hxs⟩:=shape_bool_string_string_bool_string_string_bool_string_string_bool_string_string xs.toList hx
 obtain ⟨b0,b1,b2,b3,b4,b5,b6,b7,b8,b9,b10,b11,hys⟩:=shape_bool_string_string_bool_string_string_bool_string_string_bool_string_string ys.toList hy
 obtain rfl:xs=#[.bool a0,.string a1,.string a2,.bool a3,.string a4,.string a5,.bool a6,.string a7,.string a8,.bool a9,.string a10,.string a11]:=Array.ext' hxs
 obtain rfl:ys=#[.bool b0,.string b1,.string b2,.bool b3,.string b4,.string b5,.bool b6,.string b7,.string b8,.bool b9,.string b10,.string b11]:=Array.ext' hys
 have hg:∀ op,(eqGuard op 58 x y (.agg #[.bool a0,.string a1,.string a2,.bool a3,.string a4,.string a5,.bool a6,.string a7,.string a8,.bool a9,.string a10,.string a11]) (.agg #[.bool b0,.string b1,.string b2,.bool b3,.string b4,.string b5,.bool b6,.string b7,.string b8,.bool b9,.string b10,.string b11])).run Tryz.prog w=.ok () w:=fun op=>eqGuard_agg (by kernel_rfl) op x y _ _ w
 have he:=eqA58 9996 w a0 b0 a1 b1 a2 b2 a3 b3 a4 b4 a5 b5 a6 b6 a7 b7 a8 b8 a9 b9 a10 b10 a11 b11
 exact eq_both hg he (by simp only [eqCells,Bool.and_assoc,Bool.and_true])
theorem ty3:TyOk Tryz.prog 3 ti3:=⟨by kernel_rfl,by kernel_rfl,(fun _=>⟨_,rfl,rfl⟩),rfl,(fun _ h=>by injection h with h; subst h; exact ⟨cInt_ok _,rfl,rfl⟩),(fun h=>by cases h)⟩
theorem ty4:TyOk Tryz.prog 4 ti4:=⟨by kernel_rfl,by kernel_rfl,(fun _=>⟨_,rfl,rfl⟩),rfl,(fun _ h=>by injection h with h; subst h; exact ⟨cBool_ok,rfl,rfl⟩),(fun h=>by cases h)⟩
theorem ty9:TyOk Tryz.prog 9 ti9:=⟨by kernel_rfl,by kernel_rfl,(fun _=>⟨_,rfl,rfl⟩),rfl,(fun _ h=>by injection h with h; subst h; exact ⟨cStr_ok,rfl,rfl⟩),(fun h=>by cases h)⟩
theorem ty5:TyOk Tryz.prog 5 ti5:=⟨by kernel_rfl,by kernel_rfl,(fun _=>⟨_,rfl,rfl⟩),rfl,(fun _ h=>by injection h with h; subst h; exact ⟨cInt_ok _,rfl,rfl⟩),(fun h=>by cases h)⟩
theorem ty193:TyOk Tryz.prog 193 ti193:=⟨by kernel_rfl,by kernel_rfl,(fun _=>⟨_,rfl,rfl⟩),rfl,(fun _ h=>by injection h with h; subst h; exact ⟨cInt_ok _,rfl,rfl⟩),(fun h=>by cases h)⟩
theorem ty195:TyOk Tryz.prog 195 ti195:=⟨by kernel_rfl,by kernel_rfl,(fun _=>⟨_,rfl,rfl⟩),rfl,(fun _ h=>by injection h with h; subst h; exact ⟨cInt_ok _,rfl,rfl⟩),(fun h=>by cases h)⟩
theorem ty25:TyOk Tryz.prog 25 ti25:=⟨by kernel_rfl,by kernel_rfl,(fun _=>⟨_,rfl,rfl⟩),rfl,(fun _ h=>by injection h with h; subst h; exact ⟨cInt_ok _,rfl,rfl⟩),(fun h=>by cases h)⟩
theorem ty31:TyOk Tryz.prog 31 ti31:=⟨by kernel_rfl,by kernel_rfl,(fun h=>by cases h),rfl,(fun _ h=>by injection h with h; subst h; exact ⟨cR_ok,rfl,rfl⟩),(fun _=>⟨rfl,eqT31⟩)⟩
theorem ty122:TyOk Tryz.prog 122 ti122:=⟨by kernel_rfl,by kernel_rfl,(fun h=>by cases h),rfl,(fun _ h=>by injection h with h; subst h; exact ⟨cZ_ok,rfl,rfl⟩),(fun _=>⟨rfl,eqT122⟩)⟩
theorem ty127:TyOk Tryz.prog 127 ti127:=⟨by kernel_rfl,by kernel_rfl,(fun h=>by cases h),rfl,(fun _ h=>by cases h),(fun _=>⟨rfl,eqT127⟩)⟩
theorem ty33:TyOk Tryz.prog 33 ti33:=⟨by kernel_rfl,by kernel_rfl,(fun h=>by cases h),rfl,(fun _ h=>by injection h with h; subst h; exact ⟨cP_ok,rfl,rfl⟩),(fun _=>⟨rfl,eqT33⟩)⟩
theorem ty52:TyOk Tryz.prog 52 ti52:=⟨by kernel_rfl,by kernel_rfl,(fun h=>by cases h),rfl,(fun _ h=>by injection h with h; subst h; exact ⟨cS_ok,rfl,rfl⟩),(fun _=>⟨rfl,eqT52⟩)⟩
theorem ty58:TyOk Tryz.prog 58 ti58:=⟨by kernel_rfl,by kernel_rfl,(fun h=>by cases h),rfl,(fun _ h=>by cases h),(fun _=>⟨rfl,eqT58⟩)⟩
theorem ty22:TyOk Tryz.prog 22 ti22:=⟨by kernel_rfl,by kernel_rfl,(fun _=>⟨_,rfl,rfl⟩),rfl,(fun _ h=>by cases h),(fun h=>by cases h)⟩
theorem ty112:TyOk Tryz.prog 112 ti112:=⟨by kernel_rfl,by kernel_rfl,(fun _=>⟨_,rfl,rfl⟩),rfl,(fun _ h=>by cases h),(fun h=>by cases h)⟩
theorem ty49:TyOk Tryz.prog 49 ti49:=⟨by kernel_rfl,by kernel_rfl,(fun _=>⟨_,rfl,rfl⟩),rfl,(fun _ h=>by cases h),(fun h=>by cases h)⟩
theorem ty68:TyOk Tryz.prog 68 ti68:=⟨by kernel_rfl,by kernel_rfl,(fun _=>⟨_,rfl,rfl⟩),rfl,(fun _ h=>by cases h),(fun h=>by cases h)⟩
theorem ty168:TyOk Tryz.prog 168 ti168:=⟨by kernel_rfl,by kernel_rfl,(fun _=>⟨_,rfl,rfl⟩),rfl,(fun _ h=>by cases h),(fun h=>by cases h)⟩
theorem ty198:TyOk Tryz.prog 198 ti198:=⟨by kernel_rfl,by kernel_rfl,(fun _=>⟨_,rfl,rfl⟩),rfl,(fun _ h=>by cases h),(fun h=>by cases h)⟩
theorem ty149:TyOk Tryz.prog 149 ti149:=⟨by kernel_rfl,by kernel_rfl,(fun _=>⟨_,rfl,rfl⟩),rfl,(fun _ h=>by cases h),(fun h=>by cases h)⟩
theorem ty250:TyOk Tryz.prog 250 ti250:=⟨by kernel_rfl,by kernel_rfl,(fun h=>by cases h),rfl,(fun _ h=>by cases h),(fun h=>by cases h)⟩
def tt:Tab:=[(3,ti3),(4,ti4),(9,ti9),(5,ti5),(193,ti193),(195,ti195),(25,ti25),(31,ti31),(122,ti122),(127,ti127),(33,ti33),(52,ti52),(58,ti58),(22,ti22),(112,ti112),(49,ti49),(68,ti68),(168,ti168),(198,ti198),(149,ti149),(250,ti250)]
theorem ttOk:TabOk Tryz.prog tt:=.cons ty3 (.cons ty4 (.cons ty9 (.cons ty5 (.cons ty193 (.cons ty195 (.cons ty25 (.cons ty31 (.cons ty122 (.cons ty127 (.cons ty33 (.cons ty52 (.cons ty58 (.cons ty22 (.cons ty112 (.cons ty49 (.cons ty68 (.cons ty168 (.cons ty198 (.cons ty149 (.cons ty250 (.nil _)))))))))))))))))))))
theorem mixed:Tryz.prog.follows .mixedOrders=true:=by kernel_rfl
end Go.Proofs.YtkipmmiiackdaaaGreat.Sx
namespace Go.Proofs.YtkipmmiiackdaaaGreat.Sx
open Env (std)
/-- The value of a row of limbs, the least one first. -/
def val:List Int->Int
 | []=>0
 | x::xs=>x+4294967296*val xs
def Ok32 (xs:List Int):Prop:=∀ x ∈ xs,0<=x/\x < 4294967296
/-- The row of a number, without zeros at its end. -/
def lb (n:Nat):List Int:=
 if h:n=0 then [] else ((n % 4294967296:Nat):Int)::lb (n / 4294967296)
 termination_by n
 decreasing_by omega
/-- k limbs of a number. -/
def fixl:Nat->Nat->List Int
 | 0,_=>[]
 | k+1,n=>((n % 4294967296:Nat):Int)::fixl k (n / 4294967296)
/-- The length without zeros at the end. -/
def tlen:List Int->Nat
 | []=>0
 | x::xs=>if tlen xs=0 then (if x=0 then 0 else 1) else tlen xs+1
theorem lb_zero:lb 0=[]:=by rw [lb]; simp
theorem lb_pos {n:Nat} (h:n ≠ 0):lb n=((n % 4294967296:Nat):Int)::lb (n / 4294967296):=by rw [lb]; simp [h]
theorem Ok32.nil:Ok32 []:=fun _ h=>by cases h
theorem Ok32.cons {x:Int} {xs:List Int} (h0:0<=x) (h1:x < 4294967296) (h:Ok32 xs):Ok32 (x::xs):=by
 intro y hy
 rcases List.mem_cons.1 hy with rfl | hy
 ·exact ⟨h0,h1⟩
 ·exact h y hy
theorem Ok32.tail {x:Int} {xs:List Int} (h:Ok32 (x::xs)):Ok32 xs:=fun y hy=>h y (by simp [hy])
theorem Ok32.head {x:Int} {xs:List Int} (h:Ok32 (x::xs)):0<=x/\x < 4294967296:=h x (by simp)
theorem Ok32.get {xs:List Int} (h:Ok32 xs) (i:Nat):0<=xs.getD i 0/\xs.getD i 0 < 4294967296:=by
 rw [List.getD_eq_getElem?_getD]
 cases e:xs[i]? with
 | none=>simp
 | some x=>simp; exact h x (List.mem_of_getElem? e)
theorem Ok32.set {xs:List Int} (h:Ok32 xs) {x:Int} (h0:0<=x) (h1:x < 4294967296) (i:Nat):Ok32 (xs.set i x):=by
 intro y hy
 rcases List.mem_or_eq_of_mem_set hy with hy | rfl
 ·exact h y hy
 ·exact ⟨h0,h1⟩
theorem Ok32.append {xs ys:List Int} (h:Ok32 xs) (h':Ok32 ys):Ok32 (xs++ys):=fun y hy=>(List.mem_append.1 hy).elim (h y) (h' y)
theorem Ok32.take {xs:List Int} (h:Ok32 xs) (n:Nat):Ok32 (xs.take n):=fun y hy=>h y (List.mem_of_mem_take hy)
theorem Ok32.drop {xs:List Int} (h:Ok32 xs) (n:Nat):Ok32 (xs.drop n):=fun y hy=>h y (List.mem_of_mem_drop hy)
theorem Ok32.rep (n:Nat):Ok32 (List.replicate n 0):=fun y hy=>by rw [(List.mem_replicate.1 hy).2]; decide
theorem val_nonneg:∀ {xs:List Int},Ok32 xs->0<=val xs
 | [],_=>by simp [val]
 | x::xs,h=>by
  have:=val_nonneg h.tail
  have:=h.head
  simp only [val]; omega
theorem val_append:∀ (xs ys:List Int),val (xs++ys)=val xs+4294967296 ^ xs.length*val ys
 | [],ys=>by simp [val]
 | x::xs,ys=>by
  simp only [List.cons_append,val,val_append xs ys,List.length_cons,Int.pow_succ]
  grind
theorem val_rep:∀ n:Nat,val (List.replicate n 0)=0
 | 0=>rfl
 | n+1=>by simp [List.replicate_succ,val,val_rep n]
theorem val_lt:∀ {xs:List Int},Ok32 xs->val xs < 4294967296 ^ xs.length
 | [],_=>by simp [val]
 | x::xs,h=>by
  have h1:=val_lt h.tail
  have h2:=h.head
  simp only [val,List.length_cons,Int.pow_succ]
  omega
theorem lb_ok (n:Nat):Ok32 (lb n):=by
 induction n using Nat.strongRecOn with
 | ind n ih=>
  by_cases h:n=0
  ·subst h; rw [lb_zero]; exact .nil
  ·rw [lb_pos h]
   exact .cons (by omega) (by omega) (ih _ (by omega))
theorem val_lb (n:Nat):val (lb n)=n:=by
 induction n using Nat.strongRecOn with
 | ind n ih=>
  by_cases h:n=0
  ·subst h; rw [lb_zero]; rfl
  ·rw [lb_pos h,val,ih _ (by omega)]; omega
theorem fixl_ok:∀ k n,Ok32 (fixl k n)
 | 0,_=>.nil
 | k+1,n=>.cons (by omega) (by omega) (fixl_ok k _)
theorem fixl_length:∀ k n,(fixl k n).length=k
 | 0,_=>rfl
 | k+1,n=>by simp [fixl,fixl_length k]
/-- A row without zeros at its end is that of its value. -/
theorem take_tlen:∀ {xs:List Int},Ok32 xs->xs.take (tlen xs)=lb (val xs).toNat
 | [],_=>by simp [tlen,val,lb_zero]
 | x::xs,h=>by
  have ih:=take_tlen h.tail
  have hv:=val_nonneg h.tail
  have hx:=h.head
  simp only [tlen,val]
  by_cases ht:tlen xs=0
  ·rw [ht] at ih
   simp only [List.take_zero] at ih
   have hz:(val xs).toNat=0:=by
    by_cases hz:(val xs).toNat=0
    ·exact hz
    ·rw [lb_pos hz] at ih; cases ih
   have hz':val xs=0:=by omega
   simp only [ht,if_true,hz',Int.mul_zero,Int.add_zero]
   by_cases h0:x=0
   ·simp [h0,lb_zero]
   ·rw [lb_pos (by omega)]
    have e1:x.toNat / 4294967296=0:=by omega
    have e2:((x.toNat % 4294967296:Nat):Int)=x:=by omega
    simp only [h0,if_false,e1,lb_zero,e2]
    rfl
  ·have hz:(val xs).toNat ≠ 0:=by
    intro hz
    rw [hz,lb_zero] at ih
    cases xs with
    | nil=>exact ht rfl
    | cons y ys=>cases e:tlen (y::ys) with
     | zero=>exact ht e
     | succ n=>rw [e] at ih; cases ih
   rw [if_neg ht,List.take_succ_cons,ih,lb_pos (n:=(x+4294967296*val xs).toNat) (by omega)]
   have e1:(x+4294967296*val xs).toNat / 4294967296=(val xs).toNat:=by omega
   have e2:(((x+4294967296*val xs).toNat % 4294967296:Nat):Int)=x:=by omega
   rw [e1,e2]
theorem tlen_le:∀ xs:List Int,tlen xs<=xs.length
 | []=>Nat.le_refl _
 | x::xs=>by
  have:=tlen_le xs
  simp only [tlen,List.length_cons]
  split
  ·split<;>omega
  ·omega
theorem tlen_eq:∀ {xs:List Int} {n:Nat},n<=xs.length->(∀ i,n<=i->xs.getD i 0=0)->(n=0\/xs.getD (n - 1) 0 ≠ 0)->tlen xs=n
 | [],n,h,_,_=>by simp at h; simp [tlen,h]
 | x::xs,n,h,h1,h2=>by
  cases n with
  | zero=>
   have ih:=tlen_eq (xs:=xs) (n:=0) (Nat.zero_le _) (fun i _=>by simpa using h1 (i+1) (by omega)) (.inl rfl)
   have hx:x=0:=by simpa using h1 0 (Nat.le_refl _)
   simp [tlen,ih,hx]
  | succ n=>
   have h3:xs.getD (n - 1) 0 ≠ 0\/n=0:=by
    rcases h2 with h2 | h2
    ·omega
    ·by_cases hn:n=0
     ·exact .inr hn
     ·left
      have e:n+1 - 1=(n - 1)+1:=by omega
      rw [e] at h2
      simpa using h2
   have ih:=tlen_eq (xs:=xs) (n:=n) (by simpa using h) (fun i hi=>by simpa using h1 (i+1) (by omega)) (h3.elim .inr .inl)
   simp only [tlen,ih]
   by_cases hn:n=0
   ·subst hn
    have hx:x ≠ 0:=by
     rcases h2 with h2 | h2
     ·omega
     ·simpa using h2
    simp [hx]
   ·simp [hn]
theorem w64 {n:Int} (h0 : -9223372036854775808<=n) (h1:n < 9223372036854775808):IntKind.i64.wrap n=n:=by rw [IntKind.wrap_i64]; omega
theorem td (a b:Nat):(a:Int).tdiv (b:Int)=((a / b:Nat):Int):=by rw [Int.tdiv_eq_ediv_of_nonneg (by omega)]; rfl
theorem tm (a b:Nat):(a:Int).tmod (b:Int)=((a % b:Nat):Int):=by rw [Int.tmod_eq_emod_of_nonneg (by omega)]; rfl
theorem td4 (a:Nat):(a:Int).tdiv 4=((a / 4:Nat):Int):=td a 4
theorem tm4 (a:Nat):(a:Int).tmod 4=((a % 4:Nat):Int):=tm a 4
theorem wu64 {n:Int} (h0:0<=n) (h1:n < 18446744073709551616):IntKind.u64.wrap n=n:=by rw [IntKind.wrap_u64]; omega
theorem wu32 {n:Int} (h0:0<=n) (h1:n < 4294967296):IntKind.u32.wrap n=n:=by rw [IntKind.wrap_u32]; omega
theorem wu8 {n:Int} (h0:0<=n) (h1:n < 256):IntKind.u8.wrap n=n:=by rw [IntKind.wrap_u8]; omega
section
variable (k:IntKind) (a b:Int) (s t:ByteArray)
@[simp] theorem s_add:std.ib .add k a b=k.wrap (a+b):=rfl
@[simp] theorem s_sub:std.ib .sub k a b=k.wrap (a - b):=rfl
@[simp] theorem s_mul:std.ib .mul k a b=k.wrap (a*b):=rfl
@[simp] theorem s_quo:std.ib .quo k a b=k.wrap (a.tdiv b):=rfl
@[simp] theorem s_rem:std.ib .rem k a b=a.tmod b:=rfl
@[simp] theorem s_shl:std.ib .shl k a b=k.wrap (a*2 ^ (min b.toNat k.bits)):=rfl
@[simp] theorem s_shr:std.ib .shr k a b=a.fdiv (2 ^ (min b.toNat k.bits)):=rfl
@[simp] theorem s_eql:std.ic .eql a b=decide (a=b):=rfl
@[simp] theorem s_neq:std.ic .neq a b=decide (a ≠ b):=by simp [std]; rfl
@[simp] theorem s_lss:std.ic .lss a b=decide (a < b):=rfl
@[simp] theorem s_leq:std.ic .leq a b=decide (a<=b):=rfl
@[simp] theorem s_gtr:std.ic .gtr a b=decide (a > b):=rfl
@[simp] theorem s_geq:std.ic .geq a b=decide (a>=b):=rfl
@[simp] theorem s_bn (x:Bool):std.bn x = !x:=rfl
@[simp] theorem s_bq (x y:Bool):std.bq x y=(x == y):=rfl
@[simp] theorem s_pb (x y z:Bool):std.pb x y z=if x then y else z:=rfl
@[simp] theorem s_pi (x:Bool):std.pi x a b=if x then a else b:=rfl
@[simp] theorem s_sz:std.sz s=s.size:=rfl
@[simp] theorem s_sa:std.sa s a=((s[a.toNat]?).getD 0).toNat:=rfl
@[simp] theorem s_ss:std.ss s a b=s.extract a.toNat b.toNat:=rfl
@[simp] theorem s_sc:std.sc s t=s++t:=rfl
@[simp] theorem s_cv:std.cv k a=k.wrap a:=rfl
@[simp] theorem s_inb:std.inb a b=(0<=a/\a < b):=rfl
@[simp] theorem s_rng (c:Int):std.rng a b c=(0<=a/\a<=b/\b<=c):=rfl
@[simp] theorem s_fits (n:Nat):std.fits a n=(0<=a/\a<=9223372036854775807/\a*n<=140737488355328):=rfl
@[simp] theorem s_nof (n:Nat):std.nof n=(n:Int):=rfl
@[simp] theorem s_ad:std.ad a b=a+b:=rfl
@[simp] theorem s_sb:std.sb a b=a - b:=rfl
@[simp] theorem s_mx:std.mm true a b=if b > a then b else a:=rfl
@[simp] theorem s_mn:std.mm false a b=if b < a then b else a:=rfl
@[simp] theorem s_neg:std.un .neg k a=k.wrap (0 - a):=rfl
variable {α:Type} (xs ys:List α) (z:α)
@[simp] theorem s_get:std.get α xs a z=xs.getD a.toNat z:=rfl
@[simp] theorem s_set:std.set α xs a z=xs.set a.toNat z:=rfl
@[simp] theorem s_rep:std.rep α a z=List.replicate a.toNat z:=rfl
@[simp] theorem s_tk:std.tk α xs a=xs.take a.toNat:=rfl
@[simp] theorem s_wnd:std.wnd α xs a b=(xs.drop a.toNat).take b.toNat:=rfl
@[simp] theorem s_app:std.app α xs ys=xs++ys:=rfl
@[simp] theorem s_len:std.len α xs=(xs.length:Int):=rfl
end
@[simp] theorem s_nc (j:Nat):@NatCast.natCast Int _ j=(j:Int):=rfl
@[simp] theorem s_on (j:Nat):Int.ofNat j=(j:Int):=rfl
@[simp] theorem nz_quo (b:Int):std.nz .quo b=(b ≠ 0):=rfl
@[simp] theorem nz_rem (b:Int):std.nz .rem b=(b ≠ 0):=rfl
@[simp] theorem nz_shl (b:Int):std.nz .shl b=(0<=b):=rfl
@[simp] theorem nz_shr (b:Int):std.nz .shr b=(0<=b):=rfl
end Go.Proofs.YtkipmmiiackdaaaGreat.Sx
namespace Go.Proofs.YtkipmmiiackdaaaGreat.Sx
open Env (std)
abbrev cU:=cInt .u32
theorem trim_con (xs:List Int) (hb:xs.length<=1099511627776):Con Tryz.prog 278 [.ro cU xs] (.arg 0 (tlen xs)):=by
 refine Con.of ttOk mixed Tryz.func278 {} .nil 0 (by kernel_rfl) (fun P' E hP hE=>?_)
 obtain ⟨k,hk⟩:∃ k,k=xs.length:=⟨_,rfl⟩
 obtain ⟨m,hm⟩:∃ m,m=tlen xs:=⟨_,rfl⟩
 rw [<-hm]
 cbv
 refine LoopTo.by (ι:=Nat) (fun n=>[(0,.s 0 n)]) (fun _=>[]) (fun n=>n<=xs.length/\∀ i,n<=i->xs.getD i 0=0) (fun n=>n) k [] ⟨Nat.le_of_eq hk,fun i hi=>?_⟩ ?_ ?_
 ·rw [List.getD_eq_getElem?_getD,List.getElem?_eq_none (by omega)]; rfl
 ·cbv
  subst hE
  simp [hk]
 ·intro n hn
  cbv
  refine ⟨fun h1=>?_,fun h1=>?_⟩
  ·have hn0:0 < n:=by subst hE; simpa using h1
   obtain ⟨j,rfl⟩:∃ j,n=j+1:=⟨n - 1,by omega⟩
   have hw:IntKind.i64.wrap (j:Int)=j:=w64 (by omega) (by omega)
   cbv
   refine ⟨?_,?_⟩
   ·subst hE
    simp [hw]; omega
   cbv
   refine ⟨fun h2=>?_,fun h2=>?_⟩
   ·cbv
    refine ⟨?_,?_⟩
    ·subst hE
     simp [hw]; omega
    cbv
    refine ⟨j,[],⟨by omega,fun i hi=>?_⟩,by omega,?_⟩
    ·by_cases hi':j+1<=i
     ·exact hn.2 i hi'
     ·have e:i=j:=by omega
      subst e
      subst hE
      simpa [hw] using h2
    ·cbv
     subst hE
     simp [hw]
   ·cbv
    subst hE
    rw [hm,tlen_eq hn.1 hn.2 (.inr (by simpa [hw] using h2))]
  ·cbv
   have hn0:n=0:=by subst hE; simpa using h1
   rw [hm,tlen_eq hn.1 hn.2 (.inl hn0)]
/-- The value of digits, the greatest one first. -/
def dv (l:List UInt8):Nat:=l.foldl (fun n d=>n*256+d.toNat) 0
def bv (s:ByteArray):Nat:=dv s.data.toList
/-- The digits of a number, without zeros before it. -/
def mgl (n:Nat):List UInt8:=
 if h:n=0 then [] else mgl (n / 256)++[UInt8.ofNat (n % 256)]
 termination_by n
 decreasing_by omega
def mg (n:Nat):ByteArray:=⟨(mgl n).toArray⟩
theorem mgl_zero:mgl 0=[]:=by rw [mgl]; simp
theorem mgl_pos {n:Nat} (h:n ≠ 0):mgl n=mgl (n / 256)++[UInt8.ofNat (n % 256)]:=by rw [mgl]; simp [h]
theorem dv_snoc (l:List UInt8) (d:UInt8):dv (l++[d])=dv l*256+d.toNat:=by simp [dv]
theorem dv_from:∀ (l:List UInt8) (a:Nat),l.foldl (fun n d=>n*256+d.toNat) a=a*256 ^ l.length+dv l
 | [],a=>by simp [dv]
 | d::l,a=>by
  simp only [List.foldl_cons,dv,Nat.zero_mul,Nat.zero_add,List.length_cons]
  rw [dv_from l,dv_from l d.toNat,Nat.pow_succ]
  grind
theorem dv_app (l m:List UInt8):dv (l++m)=dv l*256 ^ m.length+dv m:=by
 simp only [dv,List.foldl_append]
 exact dv_from m _
theorem dv_cons (d:UInt8) (l:List UInt8):dv (d::l)=d.toNat*256 ^ l.length+dv l:=by
 have:=dv_app [d] l
 simpa [dv] using this
theorem dv_cons0 (l:List UInt8):dv (0::l)=dv l:=by simp [dv]
theorem dv_lt:∀ l:List UInt8,dv l < 256 ^ l.length
 | []=>by simp [dv]
 | d::l=>by
  have h1:=dv_lt l
  have h2:d.toNat < 256:=d.toNat_lt
  rw [dv_cons,List.length_cons,Nat.pow_succ]
  have h3:d.toNat*256 ^ l.length<=255*256 ^ l.length:=Nat.mul_le_mul_right _ (by omega)
  omega
theorem dv_mgl (n:Nat):dv (mgl n)=n:=by
 induction n using Nat.strongRecOn with
 | ind n ih=>
  by_cases h:n=0
  ·subst h; rw [mgl_zero]; rfl
  ·rw [mgl_pos h,dv_snoc,ih _ (by omega)]
   have:(UInt8.ofNat (n % 256)).toNat=n % 256:=by simp
   rw [this]; omega
theorem mgl_head (n:Nat):∀ d l,mgl n=d::l->d ≠ 0:=by
 induction n using Nat.strongRecOn with
 | ind n ih=>
  intro d l h
  by_cases h0:n=0
  ·subst h0; rw [mgl_zero] at h; cases h
  ·rw [mgl_pos h0] at h
   by_cases h1:n / 256=0
   ·rw [h1,mgl_zero] at h
    simp at h
    rw [<-h.1]
    intro e
    have:=congrArg UInt8.toNat e
    simp at this
    omega
   ·cases hm:mgl (n / 256) with
    | nil=>rw [mgl_pos h1] at hm; simp at hm
    | cons d' l'=>
     rw [hm] at h
     simp at h
     have:=ih (n / 256) (by omega) d' l' hm
     rw [<-h.1]; exact this
theorem mgl_dv:∀ (k:Nat) (l:List UInt8),l.length=k->(∀ d m,l=d::m->d ≠ 0)->mgl (dv l)=l:=by
 intro k
 induction k with
 | zero=>intro l h _; have:l=[]:=List.eq_nil_of_length_eq_zero h; subst this; exact mgl_zero
 | succ k ih=>
  intro l h hd
  rcases List.eq_nil_or_concat l with rfl | ⟨m,d,rfl⟩
  ·simp at h
  ·rw [List.concat_eq_append] at *
   have hm:m.length=k:=by simpa using h
   have hpos:dv (m++[d]) ≠ 0:=by
    rw [dv_snoc]
    cases m with
    | nil=>
     have:=hd d [] rfl
     have h2:d.toNat ≠ 0:=fun e=>this (UInt8.toNat_inj.1 (by simpa using e))
     simp [dv]; exact h2
    | cons c m=>
     have:=hd c (m++[d]) rfl
     have h2:c.toNat ≠ 0:=fun e=>this (UInt8.toNat_inj.1 (by simpa using e))
     rw [dv_cons]
     have h3:0 < c.toNat*256 ^ m.length:=Nat.mul_pos (by omega) (Nat.pow_pos (by decide))
     omega
   rw [mgl_pos hpos,dv_snoc]
   have h2:d.toNat < 256:=d.toNat_lt
   have e1:(dv m*256+d.toNat) / 256=dv m:=by omega
   have e2:(dv m*256+d.toNat) % 256=d.toNat:=by omega
   rw [e1,e2,ih m hm (fun c r hc=>hd c (r++[d]) (by rw [hc]; rfl))]
   simp
theorem bv_mg (n:Nat):bv (mg n)=n:=dv_mgl n
theorem sq_iff {a b:ByteArray}:std.sq a b=decide (a=b):=by
 simp only [std]
 have e:a.toList=b.toList ↔ a=b:=⟨fun h=>by rw [ByteArray.toList_eq,ByteArray.toList_eq] at h; exact ByteArray.ext (Array.ext' h),fun h=>by rw [h]⟩
 by_cases h:a=b
 ·simp [h]
 ·have:¬ a.toList=b.toList:=fun h2=>h (e.1 h2)
  simp [h,this]
/-- The digits of a string. -/
def dg (s:ByteArray):List UInt8:=s.data.toList
theorem dg_ext {a b:ByteArray} (h:dg a=dg b):a=b:=ByteArray.ext (Array.ext' h)
theorem dg_size (s:ByteArray):s.size=(dg s).length:=by
 unfold dg; rw [Array.length_toList]; rfl
theorem dg_mg (n:Nat):dg (mg n)=mgl n:=rfl
theorem dg_extract (s:ByteArray) (i j:Nat):dg (s.extract i j)=((dg s).take j).drop i:=by
 simp [dg,ByteArray.data_extract]
 rw [List.drop_take]
theorem dg_get (s:ByteArray) (i:Nat):(s[i]?).getD 0=(dg s).getD i 0:=by
 rw [List.getD_eq_getElem?_getD]
 by_cases h:i < s.size
 ·rw [getElem?_pos s i h]
  have h':i < (dg s).length:=by rw [<-dg_size]; exact h
  rw [List.getElem?_eq_getElem h']
  rfl
 ·rw [getElem?_neg s i h,List.getElem?_eq_none (by rw [<-dg_size]; omega)]
theorem strip_con (s:ByteArray) (hb:s.size<=1099511627776):Con Tryz.prog 280 [.v (.string s)] (.v (.string (mg (bv s)))):=by
 refine Con.of ttOk mixed Tryz.func280 {} .nil 0 (by kernel_rfl) (fun P' E hP hE=>?_)
 obtain ⟨m,hm⟩:∃ m,m=mg (bv s):=⟨_,rfl⟩
 rw [<-hm]
 cbv
 refine LoopTo.by (ι:=ByteArray) (fun t=>[(0,.v (.string t))]) (fun _=>[]) (fun t=>bv t=bv s/\t.size<=s.size) (fun t=>t.size) s [] ⟨rfl,Nat.le_refl _⟩ ?_ ?_
 ·cbv
  simp
 ·intro t ht
  obtain ⟨u,hu⟩:∃ u,u=t.extract 1 t.size:=⟨_,rfl⟩
  cbv
  have hq:∀ z:ByteArray,z=⟨#[]⟩->(std.sq t z=decide (t.size=0)):=by
   intro z hz
   rw [sq_iff,hz]
   by_cases h:t.size=0
   ·have:t=⟨#[]⟩:=ByteArray.ext (Array.eq_empty_of_size_eq_zero h)
    simp [this]
    rfl
   ·have:¬ t=⟨#[]⟩:=by rintro rfl; exact h rfl
    simp [h,this]
  refine ⟨fun h1=>?_,fun h1=>?_⟩
  ·have hne:t.size ≠ 0:=by subst hE; have h:std.bn (std.sq t ⟨#[]⟩)=_:=h1; rw [s_bn,hq _ rfl] at h; simpa using h
   cbv
   refine ⟨?_,?_⟩
   ·subst hE; simp; omega
   cbv
   refine ⟨fun h2=>?_,fun h2=>?_⟩
   ·cbv
    refine ⟨?_,?_⟩
    ·subst hE; simp; omega
    cbv
    have hu1:dg u=(dg t).drop 1:=by rw [hu,dg_extract,List.take_of_length_le (by rw [<-dg_size]; exact Nat.le_refl _)]
    have hu2:u.size=t.size - 1:=by rw [dg_size,hu1,List.length_drop,<-dg_size]
    have hd:(dg t).getD 0 0=0:=by
     subst hE
     have h:std.ic .eql (std.sa t 0) 0=true:=h2
     rw [s_eql,s_sa,dg_get] at h
     have h:((dg t).getD 0 0).toNat=0:=by simpa using h
     exact UInt8.toNat_inj.1 h
    refine ⟨u,[],⟨?_,by omega⟩,by omega,?_⟩
    ·rw [<-ht.1]
     show dv (dg u)=dv (dg t)
     rw [hu1]
     have:0 < (dg t).length:=by rw [<-dg_size]; omega
     cases e:dg t with
     | nil=>rfl
     | cons d l=>rw [e] at hd; simp at hd; subst hd; rw [dv_cons0]; rfl
    ·cbv
     subst hE
     simp [hu]
   ·cbv
    have hd:∀ d l,dg t=d::l->d ≠ 0:=by
     rintro d l h rfl
     subst hE
     have h3:std.ic .eql (std.sa t 0) 0=false:=h2
     rw [s_eql,s_sa,dg_get] at h3
     simp [h] at h3
    rw [hm,<-ht.1]
    congr 1
    refine dg_ext ?_
    rw [dg_mg]
    exact (mgl_dv _ _ rfl hd).symm
  ·cbv
   have hz:t.size=0:=by subst hE; have h:std.bn (std.sq t ⟨#[]⟩)=_:=h1; rw [s_bn,hq _ rfl] at h; simpa using h
   have:t=⟨#[]⟩:=ByteArray.ext (Array.eq_empty_of_size_eq_zero hz)
   rw [hm,<-ht.1,this]
   congr 1
   refine dg_ext ?_
   rw [dg_mg]
   exact mgl_zero.symm
end Go.Proofs.YtkipmmiiackdaaaGreat.Sx
