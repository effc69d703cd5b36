/- Part 2 of what the statement needs: an executor of Go texts, arithmetic, and contracts of the functions that are called. -/
import Derived.Test.YtkipmmiiackdaaaGreatCi1
import Derived.Test.YtkipmmiiackdaaaGreatWLast
import Derived.OwnWalk
import Derived.RangeFuncRecord
import Derived.Lib.AppendZeros
import Derived.LoopNIn
import Derived.OrdersIn
import Derived.OwnWalkIn
set_option linter.unusedSimpArgs false
set_option linter.unusedVariables false
namespace Go.Proofs.YtkipmmiiackdaaaGreat.Sx
open Go.RowKit
/-- How an element of a slice lies in cells. -/
structure Cd where
 α:Type
 enc:α->List Value
 dec:List Value->Option α
 z:α
 sz:Nat
structure Cd.Ok (c:Cd):Prop where
 len:∀ x,(c.enc x).length=c.sz
 one:∀ x,∀ u ∈ c.enc x,u.oneCell'=true
 dec:∀ l x,c.dec l=some x->c.enc x=l
 pos:0 < c.sz
/-- What a slot may hold: nothing known; a constant; a value; a pointer into the block b; a slice over cells of the block b; a pointer to the element i of the row b, o cells on; the first l elements of the row b; l elements of it from o on; a pointer to the array b; a function with what it caught; several results; a struct of such; the yield of the loop whose record is the block b. -/
inductive AV where
 | any
 | c (x:Value)
 | v (x:Value)
 | p (b o:Nat)
 | q (b o l c:Nat)
 | e (b:Nat) (i:Int) (o:Nat)
 | s (b:Nat) (l:Int)
 | w (b:Nat) (o l:Int)
 | arr (b:Nat)
 | fn (g:FuncId) (first caps:List AV)
 | tup (l:List AV)
 | agg (l:List AV)
 | yl (b:Nat)
 deriving Inhabited
/-- Orders in which a drawn region may go on: one after the other; or one of several, all that are ready. -/
inductive Ot where
 | nil
 | op (i:Nat) (r:Ot)
 | wr (i:Nat) (r:Ot)
 | br (i:Nat) (r:Ot) (nx:Ot)
 | stop
def seqO:List Nat->Ot
 | []=>.nil
 | i::l=>.op i (seqO l)
instance:Coe (List Nat) Ot:=⟨seqO⟩
inductive X where
 | n
 | e (id:Nat)
 | r
 | g (l:Nat)
def ordOf (ord:List (Nat × Ot)) (id:Nat):Ot:=((ord.find? fun e=>e.1 == id).map (·.2)).getD .nil
/-- The number of the first region of a code. -/
def firstR:Code->Option Nat
 | .region id _ _=>some id
 | .seq a b=>match firstR a with
  | some i=>some i
  | none=>firstR b
 | .block _ c=>firstR c
 | .loop c=>firstR c
 | .cond _ a b=>match firstR a with
  | some i=>some i
  | none=>firstR b
 | _=>none
/-- How a function is run: the orders of its regions that draw; how often each loop is unrolled, by its first region. -/
structure Cfg where
 ord:List (Nat × Ot):=[]
 un:List (Nat × Nat):=[]
 /-- In a round of a range over a function. -/
 rd:Bool:=false
def Cfg.unr (g:Cfg) (c:Code):Nat:=match firstR c with
 | some i=>((g.un.find? fun e=>e.1 == i).map (·.2)).getD 0
 | none=>0
def Ot.hasBr:Ot->Bool
 | .br _ _ _=>true
 | .op _ r=>r.hasBr
 | .wr _ r=>r.hasBr
 | _=>false
/-- A loop over a function: between two rounds; in a round; left. -/
inductive LS where
 | ready
 | busy
 | done (x:X)
inductive Blk where
 | dead
 | cells (cs:List AV) (ty:TypeId)
 | row (own:Bool) (e:TypeId) (c:Cd) (xs:List c.α)
 | lp (st:LS) (t:List AV) (ps:List Tmp) (c:Unit->Code × Code × Cfg)
structure St where
 t:List AV
 h:List Blk
/-- What is known of a type. kind: 0 another, 1 struct, 2 array, 3 slice, 4 string, 5 whole number, 6 bool. -/
structure TI where
 kind:Nat
 sz:Nat
 zero:List Value
 flds:List (Nat × Nat × Bool)
 elem:TypeId
 ik:IntKind
 eq:Bool
 len:Nat
 bytes:Nat
 cd:Option Cd
instance:Inhabited TI:=⟨⟨0,0,[],[],0,.i64,false,0,0,none⟩⟩
/-- Open arithmetic stands behind these names. -/
structure Env where
 ib:BinOp->IntKind->Int->Int->Int
 ic:BinOp->Int->Int->Bool
 bq:Bool->Bool->Bool
 bn:Bool->Bool
 sq:ByteArray->ByteArray->Bool
 sc:ByteArray->ByteArray->ByteArray
 sl:ByteArray->ByteArray->Bool
 sg:ByteArray->ByteArray->Bool
 sz:ByteArray->Int
 sa:ByteArray->Int->Int
 ss:ByteArray->Int->Int->ByteArray
 cv:IntKind->Int->Int
 un:UnOp->IntKind->Int->Int
 pb:Bool->Bool->Bool->Bool
 pi:Bool->Int->Int->Int
 inb:Int->Int->Prop
 rng:Int->Int->Int->Prop
 nz:BinOp->Int->Prop
 fits:Int->Nat->Prop
 nof:Nat->Int
 ad:Int->Int->Int
 sb:Int->Int->Int
 mm:Bool->Int->Int->Int
 eqv:TypeId->List Value->List Value->Bool
 get:(α:Type)->List α->Int->α->α
 set:(α:Type)->List α->Int->α->List α
 rep:(α:Type)->Int->α->List α
 tk:(α:Type)->List α->Int->List α
 wnd:(α:Type)->List α->Int->Int->List α
 app:(α:Type)->List α->List α->List α
 len:(α:Type)->List α->Int
 b2s:(α:Type)->(α->List Value)->List α->ByteArray
def eqCells:List Value->List Value->Bool
 | [],[]=>true
 | .bool a::xs,.bool b::ys=>a == b && eqCells xs ys
 | .int _ a::xs,.int _ b::ys=>a == b && eqCells xs ys
 | .string a::xs,.string b::ys=>a.toList == b.toList && eqCells xs ys
 | _,_=>false
def byteOf:Value->UInt8
 | .int .u8 n=>UInt8.ofNat n.toNat
 | _=>0
def Env.std:Env where
 ib:=fun op k a b=>match op with
  | .add=>k.wrap (a+b)
  | .sub=>k.wrap (a - b)
  | .mul=>k.wrap (a*b)
  | .quo=>k.wrap (a.tdiv b)
  | .rem=>a.tmod b
  | .shl=>k.wrap (a*2 ^ (min b.toNat k.bits))
  | .shr=>a.fdiv (2 ^ (min b.toNat k.bits))
  | .and=>k.wrap (BitVec.ofInt k.bits a &&& BitVec.ofInt k.bits b).toNat
  | .or=>k.wrap (BitVec.ofInt k.bits a ||| BitVec.ofInt k.bits b).toNat
  | .xor=>k.wrap (BitVec.ofInt k.bits a ^^^ BitVec.ofInt k.bits b).toNat
  | .andNot=>k.wrap (BitVec.ofInt k.bits a &&& ~~~BitVec.ofInt k.bits b).toNat
  | _=>0
 ic:=fun op a b=>match op with
  | .eql=>a == b
  | .neq=>a != b
  | .lss=>decide (a < b)
  | .leq=>decide (a<=b)
  | .gtr=>decide (a > b)
  | .geq=>decide (a>=b)
  | _=>false
 bq:=fun a b=>a == b
 bn:=fun b => !b
 sq:=fun a b=>a.toList == b.toList
 sc:=fun a b=>a++b
 sl:=fun a b=>Op.bytesLess a.toList b.toList
 sg:=fun a b => !(Op.bytesLess a.toList b.toList || a.toList == b.toList)
 sz:=fun s=>s.size
 sa:=fun s i=>((s[i.toNat]?).getD 0).toNat
 ss:=fun s i j=>s.extract i.toNat j.toNat
 cv:=fun k n=>k.wrap n
 un:=fun op k n=>match op with
  | .neg=>k.wrap (0 - n)
  | .xor=>k.wrap (BitVec.ofInt k.bits (if k.signed then -1 else k.max) ^^^ BitVec.ofInt k.bits n).toNat
  | _=>0
 pb:=fun b u v=>if b then u else v
 pi:=fun b u v=>if b then u else v
 inb:=fun i n=>0<=i/\i < n
 rng:=fun i j n=>0<=i/\i<=j/\j<=n
 nz:=fun op b=>match op with
  | .quo | .rem=>b ≠ 0
  | _=>0<=b
 fits:=fun n bytes=>0<=n/\n<=9223372036854775807/\n*bytes<=140737488355328
 nof:=fun n=>(n:Int)
 ad:=fun a b=>a+b
 sb:=fun a b=>a - b
 mm:=fun b x y=>if b then (if y > x then y else x) else (if y < x then y else x)
 eqv:=fun _ xs ys=>eqCells xs ys
 get:=fun _ xs i z=>xs.getD i.toNat z
 set:=fun _ xs i x=>xs.set i.toNat x
 rep:=fun _ n x=>List.replicate n.toNat x
 tk:=fun _ xs n=>xs.take n.toNat
 wnd:=fun _ xs o n=>(xs.drop o.toNat).take n.toNat
 app:=fun _ xs ys=>xs++ys
 len:=fun _ xs=>(xs.length:Int)
 b2s:=fun _ enc xs=>⟨((xs.flatMap enc).map byteOf).toArray⟩
abbrev Tab:=List (TypeId × TI)
def Tab.at (tt:Tab) (t:TypeId):TI:=((tt.find? fun e=>e.1 == t).map (·.2)).getD default
def Tab.has (tt:Tab) (t:TypeId):Bool:=(tt.find? fun e=>e.1 == t).isSome
def ev (s:St):Operand->AV
 | .tmp t=>s.t.getD t .any
 | .const x=>.c x
 | .func f=>.c (.func (.func f) #[] #[])
 | .global _=>.any
/-- A plain value, and whether it is a constant. -/
def AV.val:AV->Option (Bool × Value)
 | .c y=>some (true,y)
 | .v y=>some (false,y)
 | _=>none
def sv (s:St) (x:Operand):Option (Bool × Value):=(ev s x).val
def valCells:Value->List Value
 | .agg cs=>cs.toList
 | x=>[x]
def plain:List AV->Option (List Value)
 | []=>some []
 | .v x::l=>match plain l with
  | some r=>some (x::r)
  | none=>none
 | .c x::l=>match plain l with
  | some r=>some (x::r)
  | none=>none
 | _::_=>none
def isCmp:BinOp->Bool
 | .eql | .neq | .lss | .leq | .gtr | .geq=>true
 | _=>false
def isDiv:BinOp->Bool
 | .quo | .rem | .shl | .shr=>true
 | _=>false
def isAr:BinOp->Bool
 | .add | .sub | .mul | .and | .or | .xor | .andNot=>true
 | _=>false
def IntKind.same:IntKind->IntKind->Bool
 | .i8,.i8 | .i16,.i16 | .i32,.i32 | .i64,.i64 | .u8,.u8 | .u16,.u16 | .u32,.u32 | .u64,.u64=>true
 | _,_=>false
def BinOp.isShift:BinOp->Bool
 | .shl | .shr=>true
 | _=>false
def shape1:Value->Value->Bool
 | .bool _,.bool _=>true
 | .int k _,.int k' _=>IntKind.same k k'
 | .string _,.string _=>true
 | _,_=>false
def shape:List Value->List Value->Bool
 | [],[]=>true
 | x::xs,y::ys=>shape1 x y && shape xs ys
 | _,_=>false
def binA (E:Env) (tt:Tab) (op:BinOp) (t:TypeId) (x y:Value):Option (Option Prop × Value):=
 match x,y with
 | .int k a,.int k' b=>
  if BinOp.isShift op then some (some (E.nz op b),.int k (E.ib op k a b))
  else if IntKind.same k k' then
   (if isCmp op then some (none,.bool (E.ic op a b))
   else if isDiv op then some (some (E.nz op b),.int k (E.ib op k a b))
   else if isAr op then some (none,.int k (E.ib op k a b)) else none)
  else none
 | .bool a,.bool b=>if (tt.at t).kind == 6 then match op with
  | .eql=>some (none,.bool (E.bq a b))
  | .neq=>some (none,.bool (E.bn (E.bq a b)))
  | _=>none
  else none
 | .string a,.string b=>match op with
  | .eql=>some (none,.bool (E.sq a b))
  | .neq=>some (none,.bool (E.bn (E.sq a b)))
  | .lss=>some (none,.bool (E.sl a b))
  | .gtr=>some (none,.bool (E.sg a b))
  | .add=>some (some (E.fits (E.ad (E.sz a) (E.sz b)) 1),.string (E.sc a b))
  | _=>none
 | .agg a,.agg b=>if (tt.at t).eq && shape (tt.at t).zero a.toList && shape (tt.at t).zero b.toList then match op with
  | .eql=>some (none,.bool (E.eqv t a.toList b.toList))
  | .neq=>some (none,.bool (E.bn (E.eqv t a.toList b.toList)))
  | _=>none
  else none
 | _,_=>none
/-- Cells filled at an offset. -/
def putAt:List Value->Nat->List Value->List Value
 | cs,_,[]=>cs
 | cs,o,x::xs=>putAt (cs.set o x) (o+1) xs
def AV.one:AV->Bool
 | .c (.agg _)=>false
 | .c (.tuple _)=>false
 | .v (.agg _)=>false
 | .v (.tuple _)=>false
 | .any=>false
 | .tup _=>false
 | .agg _=>false
 | _=>true
/-- Tells its value. -/
def AV.det:AV->Bool
 | .any | .w _ _ _ | .fn _ _ _ | .tup _ | .agg _=>false
 | _=>true
def cellsOf:AV->List AV
 | .v (.agg cs)=>cs.toList.map .v
 | .c (.agg cs)=>cs.toList.map .v
 | .agg l=>l
 | x=>[x]
def putAV:List AV->Nat->List AV->List AV
 | cs,_,[]=>cs
 | cs,o,x::xs=>putAV (cs.set o x) (o+1) xs
/-- A struct's value out of its cells. -/
def mkAgg (l:List AV):AV:=match plain l with
 | some r=>.v (.agg r.toArray)
 | none=>.agg l
def buildA (s:St) (ti:TI):List AV->List (Nat × Operand)->Option (List AV)
 | cs,[]=>some cs
 | cs,(i,x)::rest=>match ti.flds[i]? with
  | some (o,z,_)=>if (cellsOf (ev s x)).length == z && (cellsOf (ev s x)).all AV.one && o+z<=cs.length then buildA s ti (putAV cs o (cellsOf (ev s x))) rest else none
  | none=>none
/-- The places of an array's elements. -/
def arrFlds (z:Nat):Nat->Nat->List (Nat × Nat × Bool)
 | _,0=>[]
 | i,n+1=>(i*z,z,false)::arrFlds z (i+1) n
def isAggB (k:Nat):Bool:=k == 1 || k == 2
def partA (agg:Bool) (cs:List AV) (o z:Nat):Option AV:=
 if agg then some (mkAgg ((cs.drop o).take z)) else match cs[o]? with
  | some .any=>none
  | y=>y
def aggCells:AV->Option (List AV)
 | .v (.agg cs)=>some (cs.toList.map .v)
 | .c (.agg cs)=>some (cs.toList.map .v)
 | .agg l=>some l
 | _=>none
def rowLen (E:Env) (s:St) (b:Nat):Option Int:=
 match s.h[b]? with
 | some (.row _ _ c xs)=>some (E.len c.α xs)
 | _=>none
def bnd (s:St):Option Operand->Option (Option Int)
 | none=>some none
 | some x=>match sv s x with
  | some (_,.int _ n)=>some (some n)
  | _=>none
/-- Operations that yield whatever the world. -/
def pureA (E:Env) (tt:Tab) (s:St):Op->Option (Option Prop × AV)
 | .move x | .assign x=>some (none,ev s x)
 | .pick c x y=>match sv s c with
  | some (true,.bool true)=>some (none,ev s x)
  | some (true,.bool false)=>some (none,ev s y)
  | some (false,.bool b)=>match sv s x,sv s y with
   | some (_,.bool u),some (_,.bool w)=>some (none,.v (.bool (E.pb b u w)))
   | some (_,.int k u),some (_,.int k' w)=>if IntKind.same k k' then some (none,.v (.int k (E.pi b u w))) else none
   | _,_=>none
  | _=>none
 | .fieldAddr st x f=>match ev s x,(tt.at st).flds[f]? with
  | .p b o,some (d,z,_)=>if z == 0 then none else some (none,.p b (o+d))
  | .e b i o,some (d,z,_)=>if z == 0 then none else some (none,.e b i (o+d))
  | _,_=>none
 | .extract x i=>match ev s x with
  | .v (.tuple vs)=>match vs.toList[i]? with
   | some u=>some (none,.v u)
   | none=>none
  | .c (.tuple vs)=>match vs.toList[i]? with
   | some u=>some (none,.v u)
   | none=>none
  | .tup l=>match l[i]? with
   | some u=>some (none,u)
   | none=>none
  | _=>none
 | .binOp op t x y _=>match sv s x,sv s y with
  | some (true,.int k a),some (true,.int k' b)=>match binA Env.std tt op t (.int k a) (.int k' b) with
   | some (p,u)=>some (p,.c u)
   | none=>none
  | some (_,a),some (_,b)=>match binA E tt op t a b with
   | some (p,u)=>some (p,.v u)
   | none=>none
  | _,_=>none
 | .unOp op _ x=>match op,sv s x with
  | .not,some (true,.bool b)=>some (none,.c (.bool (!b)))
  | .not,some (false,.bool b)=>some (none,.v (.bool (E.bn b)))
  | .neg,some (_,.int k n)=>some (none,.v (.int k (E.un .neg k n)))
  | .xor,some (_,.int k n)=>some (none,.v (.int k (E.un .xor k n)))
  | _,_=>none
 | .convert a b x=>match sv s x with
  | some (true,.int _ n)=>if (tt.at a).kind == 5 && (tt.at b).kind == 5 then some (none,.c (.int (tt.at b).ik ((tt.at b).ik.wrap n))) else none
  | some (false,.int _ n)=>if (tt.at a).kind == 5 && (tt.at b).kind == 5 then some (none,.v (.int (tt.at b).ik (E.cv (tt.at b).ik n))) else none
  | _=>none
 | .build t parts=>if (tt.at t).kind == 1 then match buildA s (tt.at t) ((tt.at t).zero.map .v) parts.toList with
   | some cs=>some (none,mkAgg cs)
   | none=>none
  else if (tt.at t).kind == 2 then (if tt.has (tt.at t).elem then match buildA s { tt.at t with flds:=arrFlds (tt.at (tt.at t).elem).sz 0 (tt.at t).len } ((tt.at t).zero.map .v) parts.toList with
   | some cs=>some (none,mkAgg cs)
   | none=>none
  else none)
  else none
 | .field t x f=>match aggCells (ev s x),(tt.at t).flds[f]? with
  | some cs,some (o,z,g)=>match partA g cs o z with
   | some u=>some (none,u)
   | none=>none
  | _,_=>none
 | .index t x i=>if (tt.at t).kind == 2 then (if tt.has (tt.at t).elem then match aggCells (ev s x),sv s i with
   | some cs,some (true,.int _ n)=>if 0<=n && n < ((tt.at t).len:Int) then (match partA (isAggB (tt.at (tt.at t).elem).kind) cs (n.toNat*(tt.at (tt.at t).elem).sz) (tt.at (tt.at t).elem).sz with
    | some u=>some (none,u)
    | none=>none) else none
   | _,_=>none
  else none)
  else match sv s x,sv s i with
  | some (_,.string b),some (_,.int _ n)=>if (tt.at t).kind == 4 then some (some (E.inb n (E.sz b)),.v (.int .u8 (E.sa b n))) else none
  | _,_=>none
 | .nilCheck x=>match ev s x with
  | .p b o=>some (none,.p b o)
  | .e b i o=>some (none,.e b i o)
  | _=>none
 | .makeFunc fn first caps=>match fn with
  | .func g=>some (none,.fn g (first.toList.map (ev s)) (caps.toList.map (ev s)))
  | _=>none
 | .indexAddr t x i=>if (tt.at t).kind == 3 && tt.has (tt.at t).elem then match ev s x,sv s i with
   | .q b o l _,some (true,.int _ n)=>if 0<=n && n < (l:Int) then some (none,.p b (o+n.toNat*(tt.at (tt.at t).elem).sz)) else none
   | .s b l,some (_,.int _ n)=>match s.h[b]? with
    | some (.row _ _ c xs)=>if c.sz == (tt.at (tt.at t).elem).sz then some (some (E.inb n l),.e b n 0) else none
    | _=>none
   | .w b o l,some (_,.int _ n)=>match s.h[b]? with
    | some (.row _ _ c xs)=>if c.sz == (tt.at (tt.at t).elem).sz then some (some (E.inb n l),.e b (E.ad o n) 0) else none
    | _=>none
   | _,_=>none
  else if (tt.at t).kind == 2 && tt.has (tt.at t).elem && 1 < (tt.at t).len then match ev s x,sv s i with
   | .arr b,some (_,.int _ n)=>match s.h[b]? with
    | some (.row _ _ c xs)=>if c.sz == (tt.at (tt.at t).elem).sz then some (some (E.inb n (E.nof (tt.at t).len)/\E.len c.α xs=E.nof (tt.at t).len),.e b n 0) else none
    | _=>none
   | .p b o,some (true,.int _ n)=>if 0<=n && n < ((tt.at t).len:Int) then some (none,.p b (o+n.toNat*(tt.at (tt.at t).elem).sz)) else none
   | _,_=>none
  else none
 | .slice t x lo hi mx=>match mx,bnd s lo,bnd s hi with
  | none,some l,some h=>
   if (tt.at t).kind == 4 then match sv s x with
    | some (_,.string b)=>match l,h with
     | none,none=>some (none,.v (.string b))
     | some l,none=>some (some (E.rng l (E.sz b) (E.sz b)),.v (.string (E.ss b l (E.sz b))))
     | none,some h=>some (some (E.rng 0 h (E.sz b)),.v (.string (E.ss b 0 h)))
     | some l,some h=>some (some (E.rng l h (E.sz b)),.v (.string (E.ss b l h)))
    | _=>none
   else if (tt.at t).kind == 3 && tt.has (tt.at t).elem then match ev s x with
    | .s b n=>match s.h[b]? with
     | some (.row _ _ c xs)=>if c.sz == (tt.at (tt.at t).elem).sz then match l,h with
      | none,none=>some (none,.s b n)
      | some l,none=>some (some (E.rng l n n),.w b l (E.sb n l))
      | none,some h=>some (some (E.rng 0 h n),.s b h)
      | some l,some h=>some (some (E.rng l h (E.len c.α xs)),.w b l (E.sb h l))
      else none
     | _=>none
    | .w b o n=>match s.h[b]? with
     | some (.row _ _ c xs)=>if c.sz == (tt.at (tt.at t).elem).sz then match l,h with
      | none,none=>some (none,.w b o n)
      | some l,none=>some (some (E.rng l n n),.w b (E.ad o l) (E.sb n l))
      | none,some h=>some (some (E.rng 0 h n),.w b o h)
      | some l,some h=>some (some (E.rng l h n),.w b (E.ad o l) (E.sb h l))
      else none
     | _=>none
    | .c (.slice none 0 0)=>match l,h with
     | none,some h=>some (some (E.rng 0 h 0),.c (.slice none 0 0))
     | _,_=>none
    | _=>none
   else if (tt.at t).kind == 2 && tt.has (tt.at t).elem then match ev s x with
    | .arr b=>match s.h[b]? with
     | some (.row _ _ c xs)=>if c.sz == (tt.at (tt.at t).elem).sz then match l,h with
      | none,none=>some (some (E.len c.α xs=E.nof (tt.at t).len),.s b (E.nof (tt.at t).len))
      | some l,none=>some (some (E.rng l (E.nof (tt.at t).len) (E.nof (tt.at t).len)/\E.len c.α xs=E.nof (tt.at t).len),.w b l (E.sb (E.nof (tt.at t).len) l))
      | _,_=>none
      else none
     | _=>none
    | _=>none
   else none
  | some m,some (some l),some (some h)=>match sv s m with
   | some (_,.int _ m)=>if (tt.at t).kind == 3 && tt.has (tt.at t).elem then match ev s x with
    | .s b n=>match s.h[b]? with
     | some (.row _ _ c xs)=>some (some (E.rng l h m/\E.rng 0 m n),.any)
     | _=>none
    | _=>none
    else none
   | _=>none
  | _,_,_=>none
 | .call c=>match c.callee,c.args.toList,c.argTypes.toList with
  | .builtin .len,[x],[t]=>match ev s x with
   | .v (.string b)=>if (tt.at t).kind == 4 then some (none,.v (.int .i64 (E.sz b))) else none
   | .c (.string b)=>if (tt.at t).kind == 4 then some (none,.c (.int .i64 b.size)) else none
   | .s _ l=>if (tt.at t).kind == 3 then some (none,.v (.int .i64 l)) else none
   | .w _ _ l=>if (tt.at t).kind == 3 then some (none,.v (.int .i64 l)) else none
   | .q _ _ l _=>if (tt.at t).kind == 3 then some (none,.c (.int .i64 l)) else none
   | .c (.slice none 0 0)=>if (tt.at t).kind == 3 then some (none,.c (.int .i64 0)) else none
   | .v (.slice none 0 0)=>if (tt.at t).kind == 3 then some (none,.c (.int .i64 0)) else none
   | _=>none
  | .builtin .cap,[x],[t]=>match ev s x with
   | .c (.slice none 0 0)=>if (tt.at t).kind == 3 then some (none,.c (.int .i64 0)) else none
   | _=>none
  | .builtin .max,[x,y],_=>match sv s x,sv s y with
   | some (_,.int k a),some (_,.int k' b)=>if IntKind.same k k' then some (none,.v (.int k (E.mm true a b))) else none
   | _,_=>none
  | .builtin .min,[x,y],_=>match sv s x,sv s y with
   | some (_,.int k a),some (_,.int k' b)=>if IntKind.same k k' then some (none,.v (.int k (E.mm false a b))) else none
   | _,_=>none
  | _,_,_=>none
 | _=>none
/-- A read of own blocks, or of rows. -/
def loadA (E:Env) (tt:Tab) (s:St) (t:TypeId) (x:Operand):Option AV:=
 if tt.has t then match ev s x with
 | .p b o=>match s.h[b]? with
  | some (.cells cs _)=>if isAggB (tt.at t).kind then
    (if ((cs.drop o).take (tt.at t).sz).length == (tt.at t).sz && ((cs.drop o).take (tt.at t).sz).all AV.one then some (mkAgg ((cs.drop o).take (tt.at t).sz)) else none)
   else match cs[o]? with
    | some .any=>none
    | y=>y
  | _=>none
 | .e b i o=>match s.h[b]? with
  | some (.row _ _ c xs)=>if isAggB (tt.at t).kind then
    (if (((c.enc (E.get c.α xs i c.z)).drop o).take (tt.at t).sz).length == (tt.at t).sz then some (.v (.agg (((c.enc (E.get c.α xs i c.z)).drop o).take (tt.at t).sz).toArray)) else none)
   else match (c.enc (E.get c.α xs i c.z))[o]? with
    | some u=>some (.v u)
    | none=>none
  | _=>none
 | _=>none
 else none
def St.put (s:St) (d:Option Tmp) (x:AV):St:=
 match d with
 | some i=>{ s with t:=s.t.set i x }
 | none=>s
/-- Where a block lies: its number; a row's place, capacity, size of an element, length. -/
structure Loc where
 g:Nat
 a:Option Addr
 cap:Nat
 z:Nat
 n:Nat
instance:Inhabited Loc:=⟨⟨0,none,0,0,0⟩⟩
mutual
/-- The relation between the states: values. -/
def AVR (β:Nat->Loc):AV->Value->Prop
 | .any,_=>True
 | .c x,y=>y=x
 | .v x,y=>y=x
 | .p b o,y=>y=.pointer (some ⟨(β b).g,o,none⟩)
 | .q b o l c,y=>y=.slice (some ⟨(β b).g,o,none⟩) l c
 | .e b i o,y=>0<=i/\i < (β b).n/\∃ a,(β b).a=some a/\y=.pointer (some (a.add (i.toNat*(β b).z+o)))
 | .s b l,y=>0<=l/\l<=(β b).n/\y=.slice (β b).a l.toNat (β b).cap
 | .w b o l,y=>0<=o/\0<=l/\o+l<=(β b).n/\∃ a c,y=.slice a l.toNat c/\l.toNat<=c/\(0 < l->a=(β b).a.map (·.add (o.toNat*(β b).z)))
 | .arr b,y=>∃ a,(β b).a=some a/\(β b).cap=(β b).n/\y=.pointer (some a)
 | .fn g f c,y=>∃ fs cs,y=.func (.func g) fs cs/\AVRs β f fs.toList/\AVRs β c cs.toList
 | .tup l,y=>∃ vs,y=.tuple vs/\AVRs β l vs.toList
 | .agg l,y=>∃ vs,y=.agg vs/\AVRs β l vs.toList
 | .yl b,y=>y=.func (.yield (β b).g) #[] #[]
def AVRs (β:Nat->Loc):List AV->List Value->Prop
 | [],vs=>vs=[]
 | x::xs,vs=>∃ u us,vs=u::us/\AVR β x u/\AVRs β xs us
end
mutual
def AV.ok (n:Nat):AV->Prop
 | .p b _=>b < n
 | .q b _ _ _=>b < n
 | .e b _ _=>b < n
 | .s b _=>b < n
 | .w b _ _=>b < n
 | .arr b=>b < n
 | .fn _ fs caps=>AV.oks n fs/\AV.oks n caps
 | .tup l=>AV.oks n l
 | .agg l=>AV.oks n l
 | .yl b=>b < n
 | _=>True
def AV.oks (n:Nat):List AV->Prop
 | []=>True
 | x::xs=>AV.ok n x/\AV.oks n xs
end
/-- The block that may be written. -/
def Blk.occ (l:Loc):Blk->Option Nat
 | .cells _ _=>some l.g
 | .row true _ _ _=>l.a.map (·.block)
 | .lp _ _ _ _=>some l.g
 | _=>none
section
open Go.Proofs.YtkipmmiiackdaaaGreatW.PrintLast Go.Proofs.YtkipmmiiackdaaaGreatW.PrintWords
def isActB:Op->Bool
 | .alloc _ | .box _ _ | .buildSlice _ _ _ | .makeSlice _ _ _=>true
 | .call c=>match c.callee with
  | .value _=>true
  | _=>false
 | _=>false
def isLoadB:Op->Bool
 | .load _ _=>true
 | _=>false
def isStoreB:Op->Bool
 | .store _ _ _=>true
 | .call c=>match c.callee with
  | .builtin .append=>true
  | _=>false
 | _=>false
def idsO:Ot->List Nat
 | .br i _ nx=>i::idsO nx
 | _=>[]
/-- Do these orders serve: what only reads goes first, what acts comes up alone, or all that is ready is tried. ds: the stores, and what acts behind one. -/
def chk (ops:Array Oper) (ds:List Nat):Ot->Nat->Array Bool->Bool->Bool->Bool
 | .nil,n,l,_,fl => !fl && n == 0 && Region.ready .any ops l == []
 | .stop,_,_,_,fl=>fl
 | .op i r,n,l,sd,fl => !fl && match n with
  | 0=>false
  | n+1=>match ops[i]? with
   | none=>false
   | some o=>
    (if isStoreB o.op then readyB .any ops l (l.setIfInBounds i true) i && ds.contains i
     else if isActB o.op then readyB .any ops l (l.setIfInBounds i true) i && (!sd || ds.contains i)
     else if isLoadB o.op then !sd && takeB .any ops ds l (l.setIfInBounds i true) i
     else anyB .any ops l (l.setIfInBounds i true) i) && chk ops ds r n (l.setIfInBounds i true) (sd || isStoreB o.op) false
 | .wr i r,n,l,_,fl => !fl && match n with
  | 0=>false
  | n+1=>match ops[i]? with
   | none=>false
   | some _=>readyB .any ops l (l.setIfInBounds i true) i && ds.contains i && chk ops ds r n (l.setIfInBounds i true) true false
 | .br i r nx,n,l,sd,fl=>(fl || Region.ready .any ops l == i::idsO nx) && (match n with
  | 0=>false
  | n+1=>match ops[i]? with
   | none=>false
   | some o=>(!isStoreB o.op || ds.contains i) && (!sd || ds.contains i) && chk ops ds r n (l.setIfInBounds i true) (sd || isStoreB o.op) false) && chk ops ds nx n l sd true
def dsOf (ops:Array Oper):Ot->Bool->List Nat
 | .nil,_=>[]
 | .stop,_=>[]
 | .op i r,sd=>match ops[i]? with
  | none=>dsOf ops r sd
  | some o=>if isStoreB o.op then i::dsOf ops r true else if isActB o.op && sd then i::dsOf ops r sd else dsOf ops r sd
 | .wr i r,_=>i::dsOf ops r true
 | .br i r nx,sd=>(match ops[i]? with
  | none=>dsOf ops r sd
  | some o=>if isStoreB o.op then i::dsOf ops r true else if sd then i::dsOf ops r sd else dsOf ops r sd)++dsOf ops nx sd
def noDefer (ops:Array Oper):Bool:=ops.toList.all fun o=>match o.op with | .defer _=>false | _=>true
def ordOk (ops:Array Oper) (t:Ot):Bool:=noDefer ops && chk ops (dsOf ops t false) t ops.size (Array.replicate ops.size false) false false
def codeOk (ord:List (Nat × Ot)):Code->Bool
 | .region id ops true=>ordOk ops (ordOf ord id)
 | .seq a b=>codeOk ord a && codeOk ord b
 | .cond _ a b=>codeOk ord a && codeOk ord b
 | .block _ c=>codeOk ord c
 | .loop c=>codeOk ord c
 | .rangeFunc _ _ a b=>codeOk ord a && codeOk ord b
 | .scope c=>codeOk ord c
 | _=>true
end
/-- The record of a loop over a function. -/
def LSR (st:LS) (r:Loop):Prop:=
 match st with
 | .ready=>r.state=.ready/\r.pending=none
 | .busy=>r.state=.busy
 | .done .r=>r.state=.done/\r.pending=some .ret
 | .done (.e id)=>r.state=.done/\r.pending=some (.exit id)
 | .done _=>False
/-- A world at a start, and the blocks for deferred calls laid since, of which no one knows. -/
structure Base extends World where
 M:List Nat
instance:Coe Base World:=⟨Base.toWorld⟩
def Base.add (w:Base) (l:List Nat):Base:={ w with M:=l++w.M }
def mark (g:Nat):Deferred:={ target:=.collected g,args:=#[] }
/-- The fence of a round, or of none. -/
def fen (r:Option Nat):Fence:={ fn:=fun _=>True,depth:=none,alive:=false,round:=r }
def Reads (w:World) (a:Option Addr) (c:Cd) (xs:List c.α):Prop:=
 ∀ (i:Nat) x,xs[i]?=some x->∃ b,a=some b/\∀ (j:Nat) u,(c.enc x)[j]?=some u->w.cell? (b.add (i*c.sz+j))=some u
def BlkR (β:Nat->Loc) (l:Loc) (w:World):Blk->Prop
 | .dead=>True
 | .cells cs ty=>∃ vs,w.heap[l.g]?=some (.cells vs ty (0,0))/\AVRs β cs vs.toList
 | .row true e c xs=>c.Ok/\l.z=c.sz/\l.n=xs.length/\w.ownsRow 0 e c.sz (.slice l.a l.n l.cap) l.n (xs.flatMap c.enc)
 | .row false e c xs=>c.Ok/\l.z=c.sz/\l.n=xs.length/\l.n<=l.cap/\Reads w l.a c xs
 | .lp st t ps c=>∃ r:Loop,w.heap[l.g]?=some (.loop r)/\LSR st r/\AVRs β t r.tmps.toList/\r.params.toList=ps/\r.assign=(c ()).1/\r.body=(c ()).2.1/\codeOk (c ()).2.2.ord (c ()).1=true/\codeOk (c ()).2.2.ord (c ()).2.1=true/\(c ()).2.2.rd=true
def Blk.okh (n:Nat):Blk->Prop
 | .cells cs _=>AV.oks n cs
 | .lp _ t _ _=>AV.oks n t
 | _=>True
/-- The relation between the states: worlds. -/
structure RelW (w0:Base) (β:Nat->Loc) (h:List Blk) (w:World):Prop where
 below:Below w0.heap.size w0 w
 blk:∀ i b,h[i]?=some b->BlkR β (β i) w b
 mine:∀ (i:Nat) b g,h[i]?=some b->b.occ (β i)=some g->w0.heap.size<=g
 inj:∀ (i j:Nat) bi bj g,h[i]?=some bi->h[j]?=some bj->bi.occ (β i)=some g->bj.occ (β j)=some g->i=j
 ro:∀ (i j:Nat) e c xs bj g,h[i]?=some (.row false e c xs)->xs ≠ []->h[j]?=some bj->bj.occ (β j)=some g->∀ a,(β i).a=some a->a.block ≠ g
 okh:∀ b ∈ h,b.okh h.length
 mks:∀ g ∈ w0.M,w0.heap.size<=g/\w.heap[g]?=some (.deferred (some []))
 nd:w0.M.Nodup
structure RelT (ds:List Deferred) (β:Nat->Loc) (n:Nat) (t:List AV) (a:Act):Prop where
 rel:AVRs β t a.tmps.toList
 defers:a.defers=ds
 ok:AV.oks n t
/-- The numbering goes on. -/
def Ext (m:Nat) (β0:Nat->Loc) (h:List Blk) (β:Nat->Loc):Prop:=m<=h.length/\∀ i,i < m->β i=β0 i
/-- A call: what holds of what comes back. -/
structure CallTo (P:Program) (h:List Blk) (f:FuncId) (args:List AV) (K:AV->List Blk->Prop):Prop where
 out:∀ (w0:Base) (β:Nat->Loc) (w:World) (vs:Array Value),RelW w0 β h w->AV.oks h.length args->AVRs β args vs.toList ->
  (callFunc f vs).run P w=.ok (.enter f vs) w/\Calls P f vs w fun e w'=>∃ v x h' β',e=.returned v/\AVR β' x v/\x.ok h'.length/\RelW w0 β' h' w'/\Ext h.length β h' β'/\K x h'
/-- A condition, and what follows. -/
structure Need (p:Prop) (k:Unit->Prop):Prop where
 ok:p
 k:k ()
/-- A test. -/
structure fork (b:Bool) (x y:Unit->Prop):Prop where
 t:b=true->x ()
 f:b=false->y ()
/-- A slice against nil: it may be nil only if it is empty. -/
structure NilTo (l:Int) (k:Bool->Prop):Prop where
 out:∀ v:Bool,(v=true->l=0)->k v
def St.new (s:St) (b:Blk):St:={ s with h:=s.h++[b] }
/-- A row of elements, laid. -/
def fillA (s:St) (z:Nat):List AV->List (Nat × Operand)->Option (List AV)
 | cs,[]=>some cs
 | cs,(i,x)::rest=>
  if (cellsOf (ev s x)).length == z && (cellsOf (ev s x)).all AV.one && i*z+z<=cs.length then fillA s z (putAV cs (i*z) (cellsOf (ev s x))) rest else none
def repeatL:Nat->List Value->List AV
 | 0,_=>[]
 | n+1,l=>l.map .v++repeatL n l
def lim (n0:Option Nat) (s:St):St:=
 match n0 with
 | some n=>{ s with h:=s.h.take n }
 | none=>s
/-- Elements out of cells. -/
def decAll (c:Cd):Nat->List Value->Option (List c.α)
 | 0,_=>some []
 | n+1,l=>match c.dec (l.take c.sz),decAll c n (l.drop c.sz) with
  | some x,some xs=>some (x::xs)
  | _,_=>none
/-- Two lists of elements. -/
def Sm (c:Cd) (xs:List c.α) (c':Cd) (ys:List c'.α):Prop:=(⟨c,xs⟩:(c:Cd) × List c.α)=⟨c',ys⟩
/-- What is appended: literal elements, or a row. -/
def appA (E:Env) (s:St) (c:Cd) (y:AV) (K:List c.α->Prop):Prop:=
 match y with
 | .q b o l _=>match s.h[b]? with
  | some (.cells cs _)=>match plain ((cs.drop o).take (l*c.sz)) with
   | some us=>if us.length == l*c.sz then match decAll c l us with
    | some ys=>K ys
    | none=>False
    else False
   | none=>False
  | _=>False
 | .s b l=>match s.h[b]? with
  | some (.row _ _ c' ys)=>∃ zs:List c.α,Sm c zs c' (E.tk c'.α ys l)/\K zs
  | _=>False
 | .w b o l=>match s.h[b]? with
  | some (.row _ _ c' ys)=>∃ zs:List c.α,Sm c zs c' (E.wnd c'.α ys o l)/\K zs
  | _=>False
 | _=>False
/-- A byte in its cell. -/
def cB:Cd:=⟨Int,fun x=>[.int .u8 x],fun l=>match l with
 | [.int .u8 x]=>some x
 | _=>none,0,1⟩
def Op.isNil:AV->Bool
 | .c (.slice none 0 0)=>true
 | .v (.slice none 0 0)=>true
 | _=>false
/-- A window of the same row. -/
def inRow (b:Nat):AV->Option (Int × Int)
 | .w b' o l=>if b' == b then some (o,l) else none
 | _=>none
/-- The number by which the rounds of a loop over a function are called. -/
def yieldId:FuncId:=4000000007
def realA (g:FuncId) (first caps:List AV):Option (FuncId × List AV × List AV):=if g == yieldId then none else some (g,first,caps)
def actA (P:Program) (E:Env) (tt:Tab) (C:List Blk->FuncId->List AV->(AV->List Blk->Prop)->Prop) (n0:Option Nat) (o:Oper) (s:St) (K:St->Prop):Prop:=
 match o.op with
 | .load t x=>match loadA E tt (lim n0 s) t x with
  | some y=>if n0.isNone || y.det then K (s.put o.dst y) else False
  | none=>False
 | .alloc t=>if tt.has t then
   (if (tt.at t).kind == 2 then match (tt.at (tt.at t).elem).cd with
    | some c=>if tt.has (tt.at t).elem && (tt.at t).len<=1000 then Need ((tt.at t).zero=(List.replicate (tt.at t).len c.z).flatMap c.enc) fun _=>K ((s.new (.row true t c (E.rep c.α (E.nof (tt.at t).len) c.z))).put o.dst (.arr s.h.length)) else False
    | none=>K ((s.new (.cells ((tt.at t).zero.map .v) t)).put o.dst (.p s.h.length 0))
   else K ((s.new (.cells ((tt.at t).zero.map .v) t)).put o.dst (.p s.h.length 0)))
  else False
 | .box t x=>match ev s x with
  | .any=>False
  | .tup _=>False
  | y=>K ((s.new (.cells (cellsOf y) t)).put o.dst (.p s.h.length 0))
 | .store t x y=>match ev s x with
  | .p b d=>match s.h[b]? with
   | some (.cells cs ty)=>
    if (cellsOf (ev s y)).length == (tt.at t).sz && (cellsOf (ev s y)).all AV.one && tt.has t && d+(cellsOf (ev s y)).length<=cs.length then
     K (({ s with h:=s.h.set b (.cells (putAV cs d (cellsOf (ev s y))) ty) }:St).put o.dst (.v undef))
    else False
   | _=>False
  | .e b i d=>match s.h[b]? with
   | some (.row true e c xs)=>match plain (cellsOf (ev s y)) with
    | some us=>if us.length == (tt.at t).sz && tt.has t && d+us.length<=c.sz then match c.dec (if us.length == c.sz then us else putAt (c.enc (E.get c.α xs i c.z)) d us) with
     | some u=>K (({ s with h:=s.h.set b (.row true e c (E.set c.α xs i u)) }:St).put o.dst (.v undef))
     | none=>False
     else False
    | none=>False
   | _=>False
  | _=>False
 | .binOp op t x y _=>if n0.isNone && (tt.at t).kind == 3 && Op.isNil (ev s y) then (match op with
   | .eql=>if Op.isNil (ev s x) then K (s.put o.dst (.c (.bool true))) else match ev s x with
    | .s b l=>match s.h[b]? with
     | some (.row _ _ _ _)=>NilTo l fun v=>K (s.put o.dst (.v (.bool v)))
     | _=>False
    | .w b _ l=>match s.h[b]? with
     | some (.row _ _ _ _)=>NilTo l fun v=>K (s.put o.dst (.v (.bool v)))
     | _=>False
    | _=>False
   | _=>False)
  else False
 | .buildSlice t len parts=>
  if (tt.at t).kind == 3 && len == 0 && parts.size == 0 && tt.has (tt.at t).elem then match (tt.at (tt.at t).elem).cd with
   | some cd=>K ((s.new (.row true (tt.at t).elem cd [])).put o.dst (.s s.h.length 0))
   | none=>False
  else if (tt.at t).kind == 3 && decide (0 < len) && tt.has t && tt.has (tt.at t).elem && len*(tt.at (tt.at t).elem).sz<=1000 && (tt.at (tt.at t).elem).zero.length == (tt.at (tt.at t).elem).sz && 0 < (tt.at (tt.at t).elem).sz then
   match fillA s (tt.at (tt.at t).elem).sz (repeatL len (tt.at (tt.at t).elem).zero) parts.toList with
   | some cs=>K ((s.new (.cells cs (tt.at t).elem)).put o.dst (.q s.h.length 0 len len))
   | none=>False
  else False
 | .makeSlice t l c=>if (tt.at t).kind == 3 && tt.has (tt.at t).elem then match (tt.at (tt.at t).elem).cd,sv s l,sv s c with
   | some cd,some (_,.int _ n),some (_,.int _ m)=>Need (E.rng 0 n m/\E.fits m (tt.at (tt.at t).elem).bytes) fun _=>K ((s.new (.row true (tt.at t).elem cd (E.rep cd.α n cd.z))).put o.dst (.s s.h.length n))
   | _,_,_=>False
  else False
 | .convert a b x=>if n0.isNone && (tt.at b).kind == 4 && (tt.at a).kind == 3 && tt.has (tt.at a).elem && (tt.at (tt.at a).elem).kind == 5 && (tt.at (tt.at a).elem).sz == 1 then (match (tt.at (tt.at a).elem).ik with
   | .u8=>match ev s x with
    | .s b l=>match s.h[b]? with
     | some (.row _ _ c xs)=>Need (∀ y:c.α,∃ n,c.enc y=[.int .u8 n]) fun _=>K (s.put o.dst (.v (.string (E.b2s c.α c.enc (E.tk c.α xs l)))))
     | _=>False
    | .w b o' l=>match s.h[b]? with
     | some (.row _ _ c xs)=>Need (∀ y:c.α,∃ n,c.enc y=[.int .u8 n]) fun _=>K (s.put o.dst (.v (.string (E.b2s c.α c.enc (E.wnd c.α xs o' l)))))
     | _=>False
    | .q _ _ _ _=>appA E s cB (ev s x) fun ys=>K (s.put o.dst (.v (.string (E.b2s Int cB.enc ys))))
    | _=>False
   | _=>False)
  else False
 | .call c=>match c.callee with
  | .value f=>match (match ev s f with
    | .yl b=>some (yieldId,[.yl b],[])
    | .c (.func (.func g) first caps)=>realA g (first.toList.map AV.v) (caps.toList.map AV.v)
    | .v (.func (.func g) first caps)=>realA g (first.toList.map AV.v) (caps.toList.map AV.v)
    | .fn g first caps=>realA g first caps
    | _=>none) with
   | some (g,first,caps)=>C s.h g (first++c.args.toList.map (ev s)++caps) (fun u h'=>match n0 with
    | none=>K (({ s with h:=h' }:St).put o.dst u)
    | some _=>h'.take s.h.length=s.h/\K (({ s with h:=h' }:St).put o.dst u))
   | none=>False
  | .builtin .append=>match c.args.toList,c.argTypes.toList with
   | [x,y],[t,t']=>if t == t' && (tt.at t).kind == 3 && tt.has (tt.at t).elem then match (tt.at (tt.at t).elem).cd with
    | some cd=>
     if Op.isNil (ev s x) then appA E s cd (ev s y) fun ys=>Need (E.fits (E.len cd.α ys) (tt.at (tt.at t).elem).bytes) fun _=>K ((s.new (.row true (tt.at t).elem cd ys)).put o.dst (.s s.h.length (E.len cd.α ys)))
     else match ev s x with
     | .s b l=>match s.h[b]? with
      | some (.row true e cd' xs)=>if e == (tt.at t).elem && cd'.sz == (tt.at (tt.at t).elem).sz then (match inRow b (ev s y) with
        | some (o',m)=>Need (E.rng 0 (E.ad l m) (E.len cd'.α xs)) fun _=>
         K (({ s with h:=s.h.set b (.row true e cd' (E.app cd'.α (E.tk cd'.α xs l) (E.app cd'.α (E.wnd cd'.α xs o' m) (E.wnd cd'.α xs (E.ad l m) (E.sb (E.len cd'.α xs) (E.ad l m)))))) }:St).put o.dst (.s b (E.ad l m)))
        | none=>appA E s cd' (ev s y) fun ys=>Need (E.fits (E.ad l (E.len cd'.α ys)) (tt.at (tt.at t).elem).bytes) fun _=>
        K ((({ s with h:=s.h.set b .dead }:St).new (.row true e cd' (E.app cd'.α (E.tk cd'.α xs l) ys))).put o.dst (.s s.h.length (E.ad l (E.len cd'.α ys)))))
       else False
      | _=>False
     | _=>False
    | none=>False
    else if (tt.at t).kind == 3 && tt.has (tt.at t).elem && (tt.at t').kind == 5 && Op.isNil (ev s x) then match (tt.at (tt.at t).elem).cd,sv s y with
     | some cd,some (_,.int _ n)=>Need (E.rng 1 n n/\E.fits n (tt.at (tt.at t).elem).bytes) fun _=>K ((s.new (.row true (tt.at t).elem cd (E.rep cd.α n cd.z))).put o.dst (.s s.h.length n))
     | _,_=>False
    else False
   | _,_=>False
  | .builtin .clear=>match n0,c.args.toList,c.argTypes.toList with
   | none,[x],[t]=>if (tt.at t).kind == 3 && tt.has (tt.at t).elem then match ev s x with
    | .w b p l=>match s.h[b]? with
     | some (.row true e cd xs)=>Need (cd.enc cd.z=(tt.at (tt.at t).elem).zero/\E.rng 0 (E.ad p l) (E.len cd.α xs)) fun _=>
       K (({ s with h:=s.h.set b (.row true e cd (E.app cd.α (E.tk cd.α xs p) (E.app cd.α (E.rep cd.α l cd.z) (E.wnd cd.α xs (E.ad p l) (E.sb (E.len cd.α xs) (E.ad p l)))))) }:St).put o.dst .any)
     | _=>False
    | _=>False
    else False
   | _,_,_=>False
  | _=>False
 | _=>False
def stepP (P:Program) (E:Env) (tt:Tab) (C:List Blk->FuncId->List AV->(AV->List Blk->Prop)->Prop) (n0:Option Nat) (o:Oper) (s:St) (K:St->Prop):Prop:=
 match pureA E tt s o.op with
 | some (none,x)=>K (s.put o.dst x)
 | some (some p,x)=>Need p (fun _=>K (s.put o.dst x))
 | none=>actA P E tt C n0 o s K
def skipP (o:Oper) (s:St) (K:St->Prop):Prop:=K (s.put o.dst (.v undef))
def guardP (P:Program) (E:Env) (tt:Tab) (C:List Blk->FuncId->List AV->(AV->List Blk->Prop)->Prop) (n0:Option Nat) (ops:List Oper) (o:Oper) (s:St) (K:St->Prop):Prop:=
 match o.guard with
 | none=>stepP P E tt C n0 o s K
 | some (j,want)=>match ops[j]? with
  | some oj=>match oj.dst with
   | some d=>match s.t[d]? with
    | some (.c (.bool b))=>if b == want then stepP P E tt C n0 o s K else skipP o s K
    | some (.v (.bool b))=>if want then fork b (fun _=>stepP P E tt C n0 o { s with t:=s.t.set d (.c (.bool true)) } K) (fun _=>skipP o { s with t:=s.t.set d (.c (.bool false)) } K)
     else fork b (fun _=>skipP o { s with t:=s.t.set d (.c (.bool true)) } K) (fun _=>stepP P E tt C n0 o { s with t:=s.t.set d (.c (.bool false)) } K)
    | some (.v (.tuple _))=>skipP o s K
    | _=>False
   | none=>False
  | none=>False
def runOrd (P:Program) (E:Env) (tt:Tab) (C:List Blk->FuncId->List AV->(AV->List Blk->Prop)->Prop) (n0:Option Nat) (ops:List Oper):List Nat->St->(St->Prop)->Prop
 | [],s,K=>K s
 | i::is,s,K=>match ops[i]? with
  | some o=>guardP P E tt C n0 ops o s (fun s'=>runOrd P E tt C n0 ops is s' K)
  | none=>False
structure Both (p q:Unit->Prop):Prop where
 l:p ()
 r:q ()
def runOt (P:Program) (E:Env) (tt:Tab) (C:List Blk->FuncId->List AV->(AV->List Blk->Prop)->Prop) (n0:Option Nat) (ops:List Oper):Ot->St->(St->Prop)->Prop
 | .nil,s,K=>K s
 | .stop,_,_=>True
 | .op i r,s,K=>match ops[i]? with
  | some o=>guardP P E tt C n0 ops o s (fun s'=>runOt P E tt C n0 ops r s' K)
  | none=>False
 | .wr i r,s,K=>match ops[i]? with
  | some o=>guardP P E tt C none ops o s (fun s'=>runOt P E tt C n0 ops r s' K)
  | none=>False
 | .br i r nx,s,K=>match ops[i]? with
  | some o=>Both (fun _=>guardP P E tt C n0 ops o s (fun s'=>runOt P E tt C n0 ops r s' K)) (fun _=>runOt P E tt C n0 ops nx s K)
  | none=>False
/-- What holds at an exit. -/
def QQ (w0:Base) (m:Nat) (β0:Nat->Loc) (K:X->St->Prop) (e:Exit) (a:Act) (w:World):Prop:=
 match e with
 | .normal=>∃ (s:St) (β:Nat->Loc) (M:List Nat),RelT (M.map mark) β s.h.length s.t a/\RelW (w0.add M) β s.h w/\Ext m β0 s.h β/\K .n s
 | .exit id=>∃ (s:St) (β:Nat->Loc) (M:List Nat),RelT (M.map mark) β s.h.length s.t a/\RelW (w0.add M) β s.h w/\Ext m β0 s.h β/\K (.e id) s
 | .ret=>∃ (s:St) (β:Nat->Loc) (M:List Nat),RelT (M.map mark) β s.h.length s.t a/\RelW (w0.add M) β s.h w/\Ext m β0 s.h β/\K .r s
 | .goto l=>∃ (s:St) (β:Nat->Loc) (M:List Nat),RelT (M.map mark) β s.h.length s.t a/\RelW (w0.add M) β s.h w/\Ext m β0 s.h β/\K (.g l) s
 | _=>False
def rounds (F:(X->St->Prop)->St->Prop) (K:X->St->Prop):Nat->St->Prop
 | 0,_=>False
 | m+1,s=>F (fun x s'=>match x with
  | .n=>rounds F K m s'
  | x=>K x s') s
def upTo:Nat->Nat->List Nat
 | _,0=>[]
 | i,n+1=>i::upTo (i+1) n
/-- A loop that is not unrolled: the round is told. -/
structure LoopTo (P:Program) (m:Nat) (c:Unit->Code) (B:Unit->(X->St->Prop)->St->Prop) (K:X->St->Prop) (s:St):Prop where
 out:∀ r:Option Nat,(∀ (w0:Base) (β0:Nat->Loc) (K:X->St->Prop) (s:St) (β:Nat->Loc) (M:List Nat) (a:Act) (w:World),B () K s->RelT (M.map mark) β s.h.length s.t a->RelW (w0.add M) β s.h w->Ext m β0 s.h β->(c ()).wpIn (fen r) 0 P (QQ w0 m β0 K) a w) ->
  ∀ (w0:Base) (β0:Nat->Loc) (β:Nat->Loc) (M:List Nat) (a:Act) (w:World),RelT (M.map mark) β s.h.length s.t a->RelW (w0.add M) β s.h w->Ext m β0 s.h β->(Code.loop (c ())).wpIn (fen r) 0 P (QQ w0 m β0 K) a w
/-- A drawn region with choices: told, so that its ends may be told as one. -/
structure DrawTo (P:Program) (m:Nat) (c:Unit->Code) (B:Unit->(X->St->Prop)->Prop) (K:X->St->Prop) (s:St):Prop where
 out:∀ r:Option Nat,(∀ (w0:Base) (β0:Nat->Loc) (K:X->St->Prop) (β:Nat->Loc) (M:List Nat) (a:Act) (w:World),B () K->RelT (M.map mark) β s.h.length s.t a->RelW (w0.add M) β s.h w->Ext m β0 s.h β->(c ()).wpIn (fen r) 0 P (QQ w0 m β0 K) a w) ->
  ∀ (w0:Base) (β0:Nat->Loc) (β:Nat->Loc) (M:List Nat) (a:Act) (w:World),RelT (M.map mark) β s.h.length s.t a->RelW (w0.add M) β s.h w->Ext m β0 s.h β->(c ()).wpIn (fen r) 0 P (QQ w0 m β0 K) a w
/-- From a label on, in a scope whose whole code is cc: at the label the rest is run anew. -/
def ReIn (F:Fence) (n:Nat) (P:Program) (cc rest:Code) (Q:Exit->Act->World->Prop) (a:Act) (w:World):Prop:=
 ∀ (b:Frame) (k:List Item) (cs:List Frame),b.roundOf=F.round->F.fn b.fn->F.room (cs.length+1+n) ->
  ∃ e a' w',Q e a' w'/\ArrivesIn (Machine.fenced P F) P (lone (b.atR a (.code rest::.inScope cc::k)) cs w) b k cs e a' w'
def JmpIn (F:Fence) (n:Nat) (P:Program) (cc rest:Code) (l:Nat) (Q:Exit->Act->World->Prop) (e:Exit) (a:Act) (w:World):Prop:=
 match e with
 | .goto l'=>l'=l/\ReIn F n P cc rest Q a w
 | e=>Q e a w
/-- The rest of a function behind a label, to which it may jump back: told. -/
structure ScopeTo (P:Program) (m:Nat) (l:Nat) (c:Unit->Code) (B:Unit->(X->St->Prop)->St->Prop) (K:X->St->Prop) (s:St):Prop where
 out:(∀ (w0:Base) (β0:Nat->Loc) (K:X->St->Prop) (s:St) (β:Nat->Loc) (M:List Nat) (a:Act) (w:World),B () K s->RelT (M.map mark) β s.h.length s.t a->RelW (w0.add M) β s.h w->Ext m β0 s.h β->(c ()).wpIn (fen none) 0 P (QQ w0 m β0 K) a w) ->
  ∀ (cc:Code),findLabel cc l=some (.seq .skip (c ()))->∀ (w0:Base) (β0:Nat->Loc) (β:Nat->Loc) (M:List Nat) (a:Act) (w:World),RelT (M.map mark) β s.h.length s.t a->RelW (w0.add M) β s.h w->Ext m β0 s.h β->(c ()).wpIn (fen none) 0 P (JmpIn (fen none) 0 P cc (.seq .skip (c ())) l (QQ w0 m β0 K)) a w
/-- The function that is ranged over. -/
def calleeA (s:St) (f:Operand):Option (FuncId × List AV × List AV):=
 match ev s f with
 | .c (.func (.func g) first caps)=>realA g (first.toList.map AV.v) (caps.toList.map AV.v)
 | .v (.func (.func g) first caps)=>realA g (first.toList.map AV.v) (caps.toList.map AV.v)
 | .fn g first caps=>realA g first caps
 | _=>none
def wpP (P:Program) (E:Env) (tt:Tab) (C:List Blk->FuncId->List AV->(AV->List Blk->Prop)->Prop) (g:Cfg) (m:Nat):Code->(X->St->Prop)->St->Prop
 | .skip,K,s=>K .n s
 | .ret,K,s=>K .r s
 | .exit id,K,s=>K (.e id) s
 | .goto l,K,s=>K (.g l) s
 | .seq a b,K,s=>wpP P E tt C g m a (fun x s'=>match x with
  | .n=>wpP P E tt C g m b K s'
  | x=>K x s') s
 | .block id c,K,s=>wpP P E tt C g m c (fun x s'=>match x with
  | .e j=>if j == id then K .n s' else K (.e j) s'
  | x=>K x s') s
 | .cond c a b,K,s=>match ev s c with
  | .c (.bool true)=>wpP P E tt C g m a K s
  | .c (.bool false)=>wpP P E tt C g m b K s
  | .v (.bool t)=>fork t (fun _=>wpP P E tt C g m a K s) (fun _=>wpP P E tt C g m b K s)
  | _=>False
 | .region id ops draws,K,s=>if draws then (if (ordOf g.ord id).hasBr then DrawTo P m (fun _=>.region id ops true) (fun _ K=>runOt P E tt C (some s.h.length) ops.toList (ordOf g.ord id) s (fun s'=>K .n s')) K s else runOt P E tt C (some s.h.length) ops.toList (ordOf g.ord id) s (fun s'=>K .n s')) else runOrd P E tt C none ops.toList (upTo 0 ops.toList.length) s (fun s'=>K .n s')
 | .rangeFunc f ps asg body,K,s=>if g.rd then False else match calleeA s f with
  | some (i,first,caps)=>C (s.h++[.lp .ready s.t ps.toList (fun _=>(asg,body,{ g with rd:=true }))]) i (first++[.yl s.h.length]++caps) (fun _ h'=>match h'[s.h.length]? with
   | some (.lp .ready _ _ _)=>K .n { s with h:=h'.set s.h.length .dead }
   | some (.lp (.done x) _ _ _)=>K x { s with h:=h'.set s.h.length .dead }
   | _=>False)
  | none=>False
 | .loop c,K,s=>if g.unr c == 0 then LoopTo P m (fun _=>c) (fun _=>wpP P E tt C g m c) K s else rounds (wpP P E tt C g m c) K (g.unr c) s
 | _,_,_=>False
def resA (E:Env) (tt:Tab) (s:St):List ResultVar->Option (List AV)
 | []=>some []
 | .tmp t::l=>match s.t.getD t .any,resA E tt s l with
  | .any,_=>none
  | x,some r=>some (x::r)
  | _,_=>none
 | .cell a t::l=>match loadA E tt s t (.tmp a),resA E tt s l with
  | some x,some r=>some (x::r)
  | _,_=>none
def oneOf:List AV->AV
 | [x]=>x
 | l=>match plain l with
  | some r=>.v (.tuple r.toArray)
  | none=>.tup l
/-- A scope whose label follows two pieces of code. -/
def scopeOf:Code->Option (Code × Nat × Code)
 | .seq a (.scope (.seq b (.seq (.label l) r)))=>if (findLabel b l).isNone then some (.seq a b,l,r) else none
 | _=>none
/-- A function's body, on a heap. -/
def runFn (P:Program) (E:Env) (tt:Tab) (C:List Blk->FuncId->List AV->(AV->List Blk->Prop)->Prop) (g:Cfg) (fn:Func) (h:List Blk) (args:List AV) (R:AV->List Blk->Prop):Prop:=
 match fn.body with
 | some c=>match scopeOf c with
  | some (a,l,r)=>wpP P E tt C g h.length a (fun x s=>match x with
   | .n=>ScopeTo P h.length l (fun _=>r) (fun _=>wpP P E tt C g h.length r) (fun x s=>match x with
    | .e _=>False
    | .g _=>False
    | _=>match resA E tt s fn.results.toList with
     | some vs=>R (oneOf vs) s.h
     | none=>False) s
   | _=>False) ⟨args++List.replicate (fn.ntmps - args.length) (.v undef),h⟩
  | none=>wpP P E tt C g h.length c (fun x s=>match x with
   | .e _=>False
   | .g _=>False
   | _=>match resA E tt s fn.results.toList with
    | some vs=>R (oneOf vs) s.h
    | none=>False) ⟨args++List.replicate (fn.ntmps - args.length) (.v undef),h⟩
 | none=>False
def putPs:List AV->List Tmp->List AV->List AV
 | t,p::ps,x::xs=>putPs (t.set p x) ps xs
 | t,_,_=>t
/-- A round of a loop over a function: the loop's left sides, then the body. -/
def yieldP (P:Program) (E:Env) (tt:Tab) (C:List Blk->FuncId->List AV->(AV->List Blk->Prop)->Prop) (h:List Blk) (args:List AV) (R:AV->List Blk->Prop):Prop:=
 match args with
 | .yl b::args=>match h[b]? with
  | some (.lp .ready t ps c)=>if args.length == ps.length then
    wpP P E tt C (c ()).2.2 h.length (c ()).1 (fun x s=>match x with
     | .n=>(match s.h[b]? with
      | some (.lp .ready t' ps' c')=>wpP P E tt C (c ()).2.2 h.length (c ()).2.1 (fun x s=>match s.h[b]? with
       | some (.lp .busy t' ps' c')=>(match x with
        | .n=>R (.c (.bool true)) (s.h.set b (.lp .ready t' ps' c'))
        | .g _=>False
        | x=>R (.c (.bool false)) (s.h.set b (.lp (.done x) t' ps' c')))
       | _=>False) { s with h:=s.h.set b (.lp .busy t' ps' c') }
      | _=>False)
     | _=>False) ⟨putPs t ps args,h⟩
   else False
  | _=>False
 | _=>False
/-- Calls: what is listed is walked into, d deep. -/
def calls (P:Program) (E:Env) (tt:Tab) (inl:List (FuncId × Func × Cfg)):Nat->List Blk->FuncId->List AV->(AV->List Blk->Prop)->Prop
 | 0,h,f,args,K=>if f == yieldId then False else CallTo P h f args K
 | d+1,h,f,args,K=>if f == yieldId then yieldP P E tt (calls P E tt inl d) h args K else match inl.find? fun e=>e.1 == f with
  | some (_,fn,g)=>runFn P E tt (calls P E tt inl d) g fn h args K
  | none=>CallTo P h f args K
def kindB:TypeDesc->Nat
 | .struct _=>1
 | .array _ _=>2
 | .slice _=>3
 | .string=>4
 | .int _=>5
 | .bool=>6
 | _=>0
def elemB:TypeDesc->TypeId
 | .slice e=>e
 | .array _ e=>e
 | _=>0
def lenB:TypeDesc->Nat
 | .array n _=>n
 | _=>0
def ikB:TypeDesc->IntKind
 | .int k=>k
 | _=>.i64
def fldsB (P:Program):TypeDesc->List (Nat × Nat × Bool)
 | .struct fs=>fs.toList.map fun f=>(f.offset,((P.info? f.type).map (·.size)).getD 0,((P.underlying f.type).map fun d=>isAggB (kindB d)).getD false)
 | _=>[]
/-- A struct's fields' types are known. -/
def fldsOk (P:Program):TypeDesc->Bool
 | .struct fs=>fs.toList.all fun f=>(P.info? f.type).isSome && (P.underlying f.type).isSome
 | _=>true
structure TyOk (P:Program) (t:TypeId) (ti:TI):Prop where
 info:(P.info? t).map (fun i=>(i.zero,i.size,i.bytes))=some (some (if isAggB ti.kind then .agg ti.zero.toArray else ti.zero.headD undef),ti.sz,ti.bytes)
 und:(P.underlying t).map (fun d=>(kindB d,elemB d,ikB d,fldsB P d,fldsOk P d,lenB d))=some (ti.kind,ti.elem,ti.ik,ti.flds,true,ti.len)
 one:isAggB ti.kind=false->∃ x,ti.zero=[x]/\x.cells=#[x]
 sz:ti.sz=ti.zero.length
 cd:∀ c,ti.cd=some c->c.Ok/\c.enc c.z=ti.zero/\c.sz=ti.sz
 eq:ti.eq=true->ti.kind=1/\∀ (xs ys:Array Value) (w:World) (x y:Operand),shape ti.zero xs.toList=true->shape ti.zero ys.toList=true ->
  (do eqGuard .eql t x y (.agg xs) (.agg ys); binOp .eql t (.agg xs) (.agg ys)).run P w=.ok (.bool (eqCells xs.toList ys.toList)) w /\
  (do eqGuard .neq t x y (.agg xs) (.agg ys); binOp .neq t (.agg xs) (.agg ys)).run P w=.ok (.bool (!eqCells xs.toList ys.toList)) w
def TabOk (P:Program) (tt:Tab):Prop:=∀ e ∈ tt,TyOk P e.1 e.2
theorem TabOk.nil (P:Program):TabOk P []:=fun _ h=>by cases h
theorem TabOk.cons {P:Program} {t:TypeId} {ti:TI} {tt:Tab} (h:TyOk P t ti) (hs:TabOk P tt):TabOk P ((t,ti)::tt):=by
 intro e he
 rcases List.mem_cons.1 he with rfl | he
 ·exact h
 ·exact hs e he
end Go.Proofs.YtkipmmiiackdaaaGreat.Sx
