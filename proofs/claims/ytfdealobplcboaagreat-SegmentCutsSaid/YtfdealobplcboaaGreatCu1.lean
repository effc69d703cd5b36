/- Part 1 of what the statement needs: an executor of Go texts, arithmetic, and contracts of the functions that are called. -/
import Derived.Laws.StructEq
import Derived.OrdersHeld
import Derived.Deep.RegionHeld3
import Derived.Laws.BitsLemmas
import Derived.RowKit
import Derived.WideLaws
import Derived.WalkSpells
import Derived.WalkLawsBesides
import Derived.WalkKit
import Derived.Tactics
import Derived.SizedLaws
import Derived.RowKit3
import Derived.OwnWalk
import Derived.Maps.AppendAt
import Derived.Lib.ConvBytes
import Derived.Lib.AppendStr
import Derived.Laws.Slices
import Derived.Laws.Rows
import Derived.Laws.OwnMore
import Derived.Laws.MakeOwn
import Derived.Laws.IdiomCopy
import Derived.Laws.BytesArg
import Derived.KernelRfl
import Derived.Deep.QuietTactic
import Derived.Deep.OwnRows
import Derived.Deep.LoopGhost
import Derived.Deep.Draws
import Derived.Deep.DeepCutAuto
import Derived.Deep.CutBlock
import Derived.Deep.AppendLies
import Derived.ChangeSlices
import Derived.BigQuiet
import Derived.Below
import Derived.ArgAppend
import Derived.Test.YtfdealobplcboaaGreatWLast
import Derived.RangeFuncRecord
import Derived.LoopNIn
import Derived.OrdersIn
import Derived.OwnWalkIn
namespace Go.Proofs.YtfdealobplcboaaGreatW.PrintWords
open Go.RowKit
section
variable {P : Program} {d : Nat} {xs ys : Array Value} {f : Field} {fs : List Field} {a b : Value} {r s : Bool} {w : World}
/-- The last field that counts. -/
theorem eqf_last (hn : (f.name == "_") = false) (ha : (part f.type xs f.offset).run P w = .ok a w) (hb : (part f.type ys f.offset).run P w = .ok b w) (he : (Op.equalIn d f.type a b).run P w = .ok r w) : (Op.eqFields d xs ys [f]).run P w = .ok r w := by
 have hn' : f.name ≠ "_" := by simpa using hn
 simp only [Op.eqFields, if_pos hn', Sem.run_bind, ha, hb, he, Result.andThen_ok]
 cases r <;> simp
theorem eqf_cons (hn : (f.name == "_") = false) (ha : (part f.type xs f.offset).run P w = .ok a w) (hb : (part f.type ys f.offset).run P w = .ok b w) (he : (Op.equalIn d f.type a b).run P w = .ok r w) (hr : (Op.eqFields d xs ys fs).run P w = .ok s w) : (Op.eqFields d xs ys (f :: fs)).run P w = .ok (r && s) w := by
 have hn' : f.name ≠ "_" := by simpa using hn
 rw [Op.eqFields]
 simp only [if_pos hn', Sem.run_bind, ha, hb, he, Result.andThen_ok]
 cases r
 ·simp
 ·simpa using hr
theorem eqA_of {t : TypeId} {fs : Array Field} (hu : P.underlying t = some (.struct fs)) (hp : P.stoodInHeld t = false) (h : (Op.eqFields d xs ys fs.toList).run P w = .ok r w) : (Op.equalIn (d + 1) t (.agg xs) (.agg ys)).run P w = .ok r w := by
 have hf : P.fieldsOf t = fs := by simp [Program.fieldsOf, hu]
 rw [run_equalIn_struct (P := P) w d t xs ys (by rw [hf]; exact hu) hp, hf]
 exact h
end
end Go.Proofs.YtfdealobplcboaaGreatW.PrintWords

set_option linter.unusedVariables false
set_option linter.unusedSimpArgs false
namespace Go.Proofs.YtfdealobplcboaaGreat.Sx
open Go.RowKit
/-- How an element of a slice lies in cells. -/
structure Cd where
 α : Type
 enc : α -> List Value
 dec : List Value -> Option α
 z : α
 sz : Nat
structure Cd.Ok (c : Cd) : Prop where
 len : ∀ x, (c.enc x).length = c.sz
 one : ∀ x, ∀ u ∈ c.enc x, u.oneCell' = true
 dec : ∀ l x, c.dec l = some x -> c.enc x = l
 pos : 0 < c.sz
/-- What a slot may hold: nothing known; a constant; a value; a pointer into the block b; a slice over cells of the block b; a pointer to the element i of the row b, o cells on; the first l elements of the row b; l elements of it from o on; a pointer to the array b; a function with what it caught; several results; a struct of such; the yield of the loop whose record is the block b. -/
inductive AV where
 | any
 | c (x : Value)
 | v (x : Value)
 | p (b o : Nat)
 | q (b o l c : Nat)
 | e (b : Nat) (i : Int) (o : Nat)
 | s (b : Nat) (l : Int)
 | w (b : Nat) (o l : Int)
 | arr (b : Nat)
 | fn (g : FuncId) (first caps : List AV)
 | tup (l : List AV)
 | agg (l : List AV)
 | yl (b : Nat)
 deriving Inhabited
/-- Orders in which a drawn region may go on: one after the other; or one of several, all that are ready. -/
inductive Ot where
 | nil
 | op (i : Nat) (r : Ot)
 | br (i : Nat) (r : Ot) (nx : Ot)
 | stop
def seqO : List Nat -> Ot
 | [] => .nil
 | i :: l => .op i (seqO l)
instance : Coe (List Nat) Ot := ⟨seqO⟩
inductive X where
 | n
 | e (id : Nat)
 | r
 | g (l : Nat)
def ordOf (ord : List (Nat × Ot)) (id : Nat) : Ot := ((ord.find? fun e => e.1 == id).map (·.2)).getD .nil
/-- The number of the first region of a code. -/
def firstR : Code -> Option Nat
 | .region id _ _ => some id
 | .seq a b => match firstR a with
  | some i => some i
  | none => firstR b
 | .block _ c => firstR c
 | .loop c => firstR c
 | .cond _ a b => match firstR a with
  | some i => some i
  | none => firstR b
 | _ => none
/-- How a function is run: the orders of its regions that draw; how often each loop is unrolled, by its first region. -/
structure Cfg where
 ord : List (Nat × Ot) := []
 un : List (Nat × Nat) := []
 /-- In a round of a range over a function. -/
 rd : Bool := false
def Cfg.unr (g : Cfg) (c : Code) : Nat := match firstR c with
 | some i => ((g.un.find? fun e => e.1 == i).map (·.2)).getD 0
 | none => 0
def Ot.hasBr : Ot -> Bool
 | .br _ _ _ => true
 | .op _ r => r.hasBr
 | _ => false
/-- A loop over a function: between two rounds; in a round; left. -/
inductive LS where
 | ready
 | busy
 | done (x : X)
inductive Blk where
 | dead
 | cells (cs : List AV) (ty : TypeId)
 | row (own : Bool) (e : TypeId) (c : Cd) (xs : List c.α)
 | lp (st : LS) (t : List AV) (ps : List Tmp) (c : Unit -> Code × Code × Cfg)
structure St where
 t : List AV
 h : List Blk
/-- What is known of a type. kind: 0 another, 1 struct, 2 array, 3 slice, 4 string, 5 whole number, 6 bool. -/
structure TI where
 kind : Nat
 sz : Nat
 zero : List Value
 flds : List (Nat × Nat × Bool)
 elem : TypeId
 ik : IntKind
 eq : Bool
 len : Nat
 bytes : Nat
 cd : Option Cd
instance : Inhabited TI := ⟨⟨0, 0, [], [], 0, .i64, false, 0, 0, none⟩⟩
/-- Open arithmetic stands behind these names. -/
structure Env where
 ib : BinOp -> IntKind -> Int -> Int -> Int
 ic : BinOp -> Int -> Int -> Bool
 bq : Bool -> Bool -> Bool
 bn : Bool -> Bool
 sq : ByteArray -> ByteArray -> Bool
 sc : ByteArray -> ByteArray -> ByteArray
 sl : ByteArray -> ByteArray -> Bool
 sg : ByteArray -> ByteArray -> Bool
 sz : ByteArray -> Int
 sa : ByteArray -> Int -> Int
 ss : ByteArray -> Int -> Int -> ByteArray
 cv : IntKind -> Int -> Int
 un : UnOp -> IntKind -> Int -> Int
 pb : Bool -> Bool -> Bool -> Bool
 pi : Bool -> Int -> Int -> Int
 inb : Int -> Int -> Prop
 rng : Int -> Int -> Int -> Prop
 nz : BinOp -> Int -> Prop
 fits : Int -> Nat -> Prop
 nof : Nat -> Int
 ad : Int -> Int -> Int
 sb : Int -> Int -> Int
 mm : Bool -> Int -> Int -> Int
 eqv : TypeId -> List Value -> List Value -> Bool
 get : (α : Type) -> List α -> Int -> α -> α
 set : (α : Type) -> List α -> Int -> α -> List α
 rep : (α : Type) -> Int -> α -> List α
 tk : (α : Type) -> List α -> Int -> List α
 wnd : (α : Type) -> List α -> Int -> Int -> List α
 app : (α : Type) -> List α -> List α -> List α
 len : (α : Type) -> List α -> Int
 b2s : (α : Type) -> (α -> List Value) -> List α -> ByteArray
def eqCells : List Value -> List Value -> Bool
 | [], [] => true
 | .bool a :: xs, .bool b :: ys => a == b && eqCells xs ys
 | .int _ a :: xs, .int _ b :: ys => a == b && eqCells xs ys
 | .string a :: xs, .string b :: ys => a.toList == b.toList && eqCells xs ys
 | _, _ => false
def byteOf : Value -> UInt8
 | .int .u8 n => UInt8.ofNat n.toNat
 | _ => 0
def Env.std : Env where
 ib := fun op k a b => match op with
  | .add => k.wrap (a + b)
  | .sub => k.wrap (a - b)
  | .mul => k.wrap (a * b)
  | .quo => k.wrap (a.tdiv b)
  | .rem => a.tmod b
  | .shl => k.wrap (a * 2 ^ (min b.toNat k.bits))
  | .shr => a.fdiv (2 ^ (min b.toNat k.bits))
  | .and => k.wrap (BitVec.ofInt k.bits a &&& BitVec.ofInt k.bits b).toNat
  | .or => k.wrap (BitVec.ofInt k.bits a ||| BitVec.ofInt k.bits b).toNat
  | .xor => k.wrap (BitVec.ofInt k.bits a ^^^ BitVec.ofInt k.bits b).toNat
  | .andNot => k.wrap (BitVec.ofInt k.bits a &&& ~~~BitVec.ofInt k.bits b).toNat
  | _ => 0
 ic := fun op a b => match op with
  | .eql => a == b
  | .neq => a != b
  | .lss => decide (a < b)
  | .leq => decide (a <= b)
  | .gtr => decide (a > b)
  | .geq => decide (a >= b)
  | _ => false
 bq := fun a b => a == b
 bn := fun b => !b
 sq := fun a b => a.toList == b.toList
 sc := fun a b => a ++ b
 sl := fun a b => Op.bytesLess a.toList b.toList
 sg := fun a b => !(Op.bytesLess a.toList b.toList || a.toList == b.toList)
 sz := fun s => s.size
 sa := fun s i => ((s[i.toNat]?).getD 0).toNat
 ss := fun s i j => s.extract i.toNat j.toNat
 cv := fun k n => k.wrap n
 un := fun op k n => match op with
  | .neg => k.wrap (0 - n)
  | .xor => k.wrap (BitVec.ofInt k.bits (if k.signed then -1 else k.max) ^^^ BitVec.ofInt k.bits n).toNat
  | _ => 0
 pb := fun b u v => if b then u else v
 pi := fun b u v => if b then u else v
 inb := fun i n => 0 <= i /\ i < n
 rng := fun i j n => 0 <= i /\ i <= j /\ j <= n
 nz := fun op b => match op with
  | .quo | .rem => b ≠ 0
  | _ => 0 <= b
 fits := fun n bytes => 0 <= n /\ n <= 9223372036854775807 /\ n * bytes <= 140737488355328
 nof := fun n => (n : Int)
 ad := fun a b => a + b
 sb := fun a b => a - b
 mm := fun b x y => if b then (if y > x then y else x) else (if y < x then y else x)
 eqv := fun _ xs ys => eqCells xs ys
 get := fun _ xs i z => xs.getD i.toNat z
 set := fun _ xs i x => xs.set i.toNat x
 rep := fun _ n x => List.replicate n.toNat x
 tk := fun _ xs n => xs.take n.toNat
 wnd := fun _ xs o n => (xs.drop o.toNat).take n.toNat
 app := fun _ xs ys => xs ++ ys
 len := fun _ xs => (xs.length : Int)
 b2s := fun _ enc xs => ⟨((xs.flatMap enc).map byteOf).toArray⟩
abbrev Tab := List (TypeId × TI)
def Tab.at (tt : Tab) (t : TypeId) : TI := ((tt.find? fun e => e.1 == t).map (·.2)).getD default
def Tab.has (tt : Tab) (t : TypeId) : Bool := (tt.find? fun e => e.1 == t).isSome
def ev (s : St) : Operand -> AV
 | .tmp t => s.t.getD t .any
 | .const x => .c x
 | .func f => .c (.func (.func f) #[] #[])
 | .global _ => .any
/-- A plain value, and whether it is a constant. -/
def AV.val : AV -> Option (Bool × Value)
 | .c y => some (true, y)
 | .v y => some (false, y)
 | _ => none
def sv (s : St) (x : Operand) : Option (Bool × Value) := (ev s x).val
def valCells : Value -> List Value
 | .agg cs => cs.toList
 | x => [x]
def plain : List AV -> Option (List Value)
 | [] => some []
 | .v x :: l => match plain l with
  | some r => some (x :: r)
  | none => none
 | .c x :: l => match plain l with
  | some r => some (x :: r)
  | none => none
 | _ :: _ => none
def isCmp : BinOp -> Bool
 | .eql | .neq | .lss | .leq | .gtr | .geq => true
 | _ => false
def isDiv : BinOp -> Bool
 | .quo | .rem | .shl | .shr => true
 | _ => false
def isAr : BinOp -> Bool
 | .add | .sub | .mul | .and | .or | .xor | .andNot => true
 | _ => false
def IntKind.same : IntKind -> IntKind -> Bool
 | .i8, .i8 | .i16, .i16 | .i32, .i32 | .i64, .i64 | .u8, .u8 | .u16, .u16 | .u32, .u32 | .u64, .u64 => true
 | _, _ => false
def BinOp.isShift : BinOp -> Bool
 | .shl | .shr => true
 | _ => false
def shape1 : Value -> Value -> Bool
 | .bool _, .bool _ => true
 | .int k _, .int k' _ => IntKind.same k k'
 | .string _, .string _ => true
 | _, _ => false
def shape : List Value -> List Value -> Bool
 | [], [] => true
 | x :: xs, y :: ys => shape1 x y && shape xs ys
 | _, _ => false
def binA (E : Env) (tt : Tab) (op : BinOp) (t : TypeId) (x y : Value) : Option (Option Prop × Value) :=
 match x, y with
 | .int k a, .int k' b =>
  if BinOp.isShift op then some (some (E.nz op b), .int k (E.ib op k a b))
  else if IntKind.same k k' then
   (if isCmp op then some (none, .bool (E.ic op a b))
   else if isDiv op then some (some (E.nz op b), .int k (E.ib op k a b))
   else if isAr op then some (none, .int k (E.ib op k a b)) else none)
  else none
 | .bool a, .bool b => if (tt.at t).kind == 6 then match op with
  | .eql => some (none, .bool (E.bq a b))
  | .neq => some (none, .bool (E.bn (E.bq a b)))
  | _ => none
  else none
 | .string a, .string b => match op with
  | .eql => some (none, .bool (E.sq a b))
  | .neq => some (none, .bool (E.bn (E.sq a b)))
  | .lss => some (none, .bool (E.sl a b))
  | .gtr => some (none, .bool (E.sg a b))
  | .add => some (some (E.fits (E.ad (E.sz a) (E.sz b)) 1), .string (E.sc a b))
  | _ => none
 | .agg a, .agg b => if (tt.at t).eq && shape (tt.at t).zero a.toList && shape (tt.at t).zero b.toList then match op with
  | .eql => some (none, .bool (E.eqv t a.toList b.toList))
  | .neq => some (none, .bool (E.bn (E.eqv t a.toList b.toList)))
  | _ => none
  else none
 | _, _ => none
/-- Cells filled at an offset. -/
def putAt : List Value -> Nat -> List Value -> List Value
 | cs, _, [] => cs
 | cs, o, x :: xs => putAt (cs.set o x) (o + 1) xs
def AV.one : AV -> Bool
 | .c (.agg _) => false
 | .c (.tuple _) => false
 | .v (.agg _) => false
 | .v (.tuple _) => false
 | .any => false
 | .tup _ => false
 | .agg _ => false
 | _ => true
/-- Tells its value. -/
def AV.det : AV -> Bool
 | .any | .w _ _ _ | .fn _ _ _ | .tup _ | .agg _ => false
 | _ => true
def cellsOf : AV -> List AV
 | .v (.agg cs) => cs.toList.map .v
 | .c (.agg cs) => cs.toList.map .v
 | .agg l => l
 | x => [x]
def putAV : List AV -> Nat -> List AV -> List AV
 | cs, _, [] => cs
 | cs, o, x :: xs => putAV (cs.set o x) (o + 1) xs
/-- A struct's value out of its cells. -/
def mkAgg (l : List AV) : AV := match plain l with
 | some r => .v (.agg r.toArray)
 | none => .agg l
def buildA (s : St) (ti : TI) : List AV -> List (Nat × Operand) -> Option (List AV)
 | cs, [] => some cs
 | cs, (i, x) :: rest => match ti.flds[i]? with
  | some (o, z, _) => if (cellsOf (ev s x)).length == z && (cellsOf (ev s x)).all AV.one && o + z <= cs.length then buildA s ti (putAV cs o (cellsOf (ev s x))) rest else none
  | none => none
/-- The places of an array's elements. -/
def arrFlds (z : Nat) : Nat -> Nat -> List (Nat × Nat × Bool)
 | _, 0 => []
 | i, n + 1 => (i * z, z, false) :: arrFlds z (i + 1) n
def isAggB (k : Nat) : Bool := k == 1 || k == 2
def partA (agg : Bool) (cs : List AV) (o z : Nat) : Option AV :=
 if agg then some (mkAgg ((cs.drop o).take z)) else match cs[o]? with
  | some .any => none
  | y => y
def aggCells : AV -> Option (List AV)
 | .v (.agg cs) => some (cs.toList.map .v)
 | .c (.agg cs) => some (cs.toList.map .v)
 | .agg l => some l
 | _ => none
def rowLen (E : Env) (s : St) (b : Nat) : Option Int :=
 match s.h[b]? with
 | some (.row _ _ c xs) => some (E.len c.α xs)
 | _ => none
def bnd (s : St) : Option Operand -> Option (Option Int)
 | none => some none
 | some x => match sv s x with
  | some (_, .int _ n) => some (some n)
  | _ => none
/-- Operations that yield whatever the world. -/
def pureA (E : Env) (tt : Tab) (s : St) : Op -> Option (Option Prop × AV)
 | .move x | .assign x => some (none, ev s x)
 | .pick c x y => match sv s c with
  | some (true, .bool true) => some (none, ev s x)
  | some (true, .bool false) => some (none, ev s y)
  | some (false, .bool b) => match sv s x, sv s y with
   | some (_, .bool u), some (_, .bool w) => some (none, .v (.bool (E.pb b u w)))
   | some (_, .int k u), some (_, .int k' w) => if IntKind.same k k' then some (none, .v (.int k (E.pi b u w))) else none
   | _, _ => none
  | _ => none
 | .fieldAddr st x f => match ev s x, (tt.at st).flds[f]? with
  | .p b o, some (d, z, _) => if z == 0 then none else some (none, .p b (o + d))
  | .e b i o, some (d, z, _) => if z == 0 then none else some (none, .e b i (o + d))
  | _, _ => none
 | .extract x i => match ev s x with
  | .v (.tuple vs) => match vs.toList[i]? with
   | some u => some (none, .v u)
   | none => none
  | .c (.tuple vs) => match vs.toList[i]? with
   | some u => some (none, .v u)
   | none => none
  | .tup l => match l[i]? with
   | some u => some (none, u)
   | none => none
  | _ => none
 | .binOp op t x y _ => match sv s x, sv s y with
  | some (true, .int k a), some (true, .int k' b) => match binA Env.std tt op t (.int k a) (.int k' b) with
   | some (p, u) => some (p, .c u)
   | none => none
  | some (_, a), some (_, b) => match binA E tt op t a b with
   | some (p, u) => some (p, .v u)
   | none => none
  | _, _ => none
 | .unOp op _ x => match op, sv s x with
  | .not, some (true, .bool b) => some (none, .c (.bool (!b)))
  | .not, some (false, .bool b) => some (none, .v (.bool (E.bn b)))
  | .neg, some (_, .int k n) => some (none, .v (.int k (E.un .neg k n)))
  | .xor, some (_, .int k n) => some (none, .v (.int k (E.un .xor k n)))
  | _, _ => none
 | .convert a b x => match sv s x with
  | some (true, .int _ n) => if (tt.at a).kind == 5 && (tt.at b).kind == 5 then some (none, .c (.int (tt.at b).ik ((tt.at b).ik.wrap n))) else none
  | some (false, .int _ n) => if (tt.at a).kind == 5 && (tt.at b).kind == 5 then some (none, .v (.int (tt.at b).ik (E.cv (tt.at b).ik n))) else none
  | _ => none
 | .build t parts => if (tt.at t).kind == 1 then match buildA s (tt.at t) ((tt.at t).zero.map .v) parts.toList with
   | some cs => some (none, mkAgg cs)
   | none => none
  else if (tt.at t).kind == 2 then (if tt.has (tt.at t).elem then match buildA s { tt.at t with flds := arrFlds (tt.at (tt.at t).elem).sz 0 (tt.at t).len } ((tt.at t).zero.map .v) parts.toList with
   | some cs => some (none, mkAgg cs)
   | none => none
  else none)
  else none
 | .field t x f => match aggCells (ev s x), (tt.at t).flds[f]? with
  | some cs, some (o, z, g) => match partA g cs o z with
   | some u => some (none, u)
   | none => none
  | _, _ => none
 | .index t x i => if (tt.at t).kind == 2 then (if tt.has (tt.at t).elem then match aggCells (ev s x), sv s i with
   | some cs, some (true, .int _ n) => if 0 <= n && n < ((tt.at t).len : Int) then (match partA (isAggB (tt.at (tt.at t).elem).kind) cs (n.toNat * (tt.at (tt.at t).elem).sz) (tt.at (tt.at t).elem).sz with
    | some u => some (none, u)
    | none => none) else none
   | _, _ => none
  else none)
  else match sv s x, sv s i with
  | some (_, .string b), some (_, .int _ n) => if (tt.at t).kind == 4 then some (some (E.inb n (E.sz b)), .v (.int .u8 (E.sa b n))) else none
  | _, _ => none
 | .nilCheck x => match ev s x with
  | .p b o => some (none, .p b o)
  | .e b i o => some (none, .e b i o)
  | _ => none
 | .makeFunc fn first caps => match fn with
  | .func g => some (none, .fn g (first.toList.map (ev s)) (caps.toList.map (ev s)))
  | _ => none
 | .indexAddr t x i => if (tt.at t).kind == 3 && tt.has (tt.at t).elem then match ev s x, sv s i with
   | .q b o l _, some (true, .int _ n) => if 0 <= n && n < (l : Int) then some (none, .p b (o + n.toNat * (tt.at (tt.at t).elem).sz)) else none
   | .s b l, some (_, .int _ n) => match s.h[b]? with
    | some (.row _ _ c xs) => if c.sz == (tt.at (tt.at t).elem).sz then some (some (E.inb n l), .e b n 0) else none
    | _ => none
   | .w b o l, some (_, .int _ n) => match s.h[b]? with
    | some (.row _ _ c xs) => if c.sz == (tt.at (tt.at t).elem).sz then some (some (E.inb n l), .e b (E.ad o n) 0) else none
    | _ => none
   | _, _ => none
  else if (tt.at t).kind == 2 && tt.has (tt.at t).elem && 1 < (tt.at t).len then match ev s x, sv s i with
   | .arr b, some (_, .int _ n) => match s.h[b]? with
    | some (.row _ _ c xs) => if c.sz == (tt.at (tt.at t).elem).sz then some (some (E.inb n (E.nof (tt.at t).len) /\ E.len c.α xs = E.nof (tt.at t).len), .e b n 0) else none
    | _ => none
   | .p b o, some (true, .int _ n) => if 0 <= n && n < ((tt.at t).len : Int) then some (none, .p b (o + n.toNat * (tt.at (tt.at t).elem).sz)) else none
   | _, _ => none
  else none
 | .slice t x lo hi mx => match mx, bnd s lo, bnd s hi with
  | none, some l, some h =>
   if (tt.at t).kind == 4 then match sv s x with
    | some (_, .string b) => match l, h with
     | none, none => some (none, .v (.string b))
     | some l, none => some (some (E.rng l (E.sz b) (E.sz b)), .v (.string (E.ss b l (E.sz b))))
     | none, some h => some (some (E.rng 0 h (E.sz b)), .v (.string (E.ss b 0 h)))
     | some l, some h => some (some (E.rng l h (E.sz b)), .v (.string (E.ss b l h)))
    | _ => none
   else if (tt.at t).kind == 3 && tt.has (tt.at t).elem then match ev s x with
    | .s b n => match s.h[b]? with
     | some (.row _ _ c xs) => if c.sz == (tt.at (tt.at t).elem).sz then match l, h with
      | none, none => some (none, .s b n)
      | some l, none => some (some (E.rng l n n), .w b l (E.sb n l))
      | none, some h => some (some (E.rng 0 h n), .s b h)
      | some l, some h => some (some (E.rng l h n), .w b l (E.sb h l))
      else none
     | _ => none
    | .w b o n => match s.h[b]? with
     | some (.row _ _ c xs) => if c.sz == (tt.at (tt.at t).elem).sz then match l, h with
      | none, none => some (none, .w b o n)
      | some l, none => some (some (E.rng l n n), .w b (E.ad o l) (E.sb n l))
      | none, some h => some (some (E.rng 0 h n), .w b o h)
      | some l, some h => some (some (E.rng l h n), .w b (E.ad o l) (E.sb h l))
      else none
     | _ => none
    | .c (.slice none 0 0) => match l, h with
     | none, some h => some (some (E.rng 0 h 0), .c (.slice none 0 0))
     | _, _ => none
    | _ => none
   else if (tt.at t).kind == 2 && tt.has (tt.at t).elem then match ev s x with
    | .arr b => match s.h[b]? with
     | some (.row _ _ c xs) => if c.sz == (tt.at (tt.at t).elem).sz then match l, h with
      | none, none => some (some (E.len c.α xs = E.nof (tt.at t).len), .s b (E.nof (tt.at t).len))
      | some l, none => some (some (E.rng l (E.nof (tt.at t).len) (E.nof (tt.at t).len) /\ E.len c.α xs = E.nof (tt.at t).len), .w b l (E.sb (E.nof (tt.at t).len) l))
      | _, _ => none
      else none
     | _ => none
    | _ => none
   else none
  | some m, some (some l), some (some h) => match sv s m with
   | some (_, .int _ m) => if (tt.at t).kind == 3 && tt.has (tt.at t).elem then match ev s x with
    | .s b n => match s.h[b]? with
     | some (.row _ _ c xs) => some (some (E.rng l h m /\ E.rng 0 m n), .any)
     | _ => none
    | _ => none
    else none
   | _ => none
  | _, _, _ => none
 | .call c => match c.callee, c.args.toList, c.argTypes.toList with
  | .builtin .len, [x], [t] => match ev s x with
   | .v (.string b) => if (tt.at t).kind == 4 then some (none, .v (.int .i64 (E.sz b))) else none
   | .c (.string b) => if (tt.at t).kind == 4 then some (none, .c (.int .i64 b.size)) else none
   | .s _ l => if (tt.at t).kind == 3 then some (none, .v (.int .i64 l)) else none
   | .w _ _ l => if (tt.at t).kind == 3 then some (none, .v (.int .i64 l)) else none
   | .q _ _ l _ => if (tt.at t).kind == 3 then some (none, .c (.int .i64 l)) else none
   | .c (.slice none 0 0) => if (tt.at t).kind == 3 then some (none, .c (.int .i64 0)) else none
   | .v (.slice none 0 0) => if (tt.at t).kind == 3 then some (none, .c (.int .i64 0)) else none
   | _ => none
  | .builtin .cap, [x], [t] => match ev s x with
   | .c (.slice none 0 0) => if (tt.at t).kind == 3 then some (none, .c (.int .i64 0)) else none
   | _ => none
  | .builtin .max, [x, y], _ => match sv s x, sv s y with
   | some (_, .int k a), some (_, .int k' b) => if IntKind.same k k' then some (none, .v (.int k (E.mm true a b))) else none
   | _, _ => none
  | .builtin .min, [x, y], _ => match sv s x, sv s y with
   | some (_, .int k a), some (_, .int k' b) => if IntKind.same k k' then some (none, .v (.int k (E.mm false a b))) else none
   | _, _ => none
  | _, _, _ => none
 | _ => none
/-- A read of own blocks, or of rows. -/
def loadA (E : Env) (tt : Tab) (s : St) (t : TypeId) (x : Operand) : Option AV :=
 if tt.has t then match ev s x with
 | .p b o => match s.h[b]? with
  | some (.cells cs _) => if isAggB (tt.at t).kind then
    (if ((cs.drop o).take (tt.at t).sz).length == (tt.at t).sz && ((cs.drop o).take (tt.at t).sz).all AV.one then some (mkAgg ((cs.drop o).take (tt.at t).sz)) else none)
   else match cs[o]? with
    | some .any => none
    | y => y
  | _ => none
 | .e b i o => match s.h[b]? with
  | some (.row _ _ c xs) => if isAggB (tt.at t).kind then
    (if (((c.enc (E.get c.α xs i c.z)).drop o).take (tt.at t).sz).length == (tt.at t).sz then some (.v (.agg (((c.enc (E.get c.α xs i c.z)).drop o).take (tt.at t).sz).toArray)) else none)
   else match (c.enc (E.get c.α xs i c.z))[o]? with
    | some u => some (.v u)
    | none => none
  | _ => none
 | _ => none
 else none
def St.put (s : St) (d : Option Tmp) (x : AV) : St :=
 match d with
 | some i => { s with t := s.t.set i x }
 | none => s
/-- Where a block lies: its number; a row's place, capacity, size of an element, length. -/
structure Loc where
 g : Nat
 a : Option Addr
 cap : Nat
 z : Nat
 n : Nat
instance : Inhabited Loc := ⟨⟨0, none, 0, 0, 0⟩⟩
mutual
/-- The relation between the states: values. -/
def AVR (β : Nat -> Loc) : AV -> Value -> Prop
 | .any, _ => True
 | .c x, y => y = x
 | .v x, y => y = x
 | .p b o, y => y = .pointer (some ⟨(β b).g, o, none⟩)
 | .q b o l c, y => y = .slice (some ⟨(β b).g, o, none⟩) l c
 | .e b i o, y => 0 <= i /\ i < (β b).n /\ ∃ a, (β b).a = some a /\ y = .pointer (some (a.add (i.toNat * (β b).z + o)))
 | .s b l, y => 0 <= l /\ l <= (β b).n /\ y = .slice (β b).a l.toNat (β b).cap
 | .w b o l, y => 0 <= o /\ 0 <= l /\ o + l <= (β b).n /\ ∃ a c, y = .slice a l.toNat c /\ l.toNat <= c /\ (0 < l -> a = (β b).a.map (·.add (o.toNat * (β b).z)))
 | .arr b, y => ∃ a, (β b).a = some a /\ (β b).cap = (β b).n /\ y = .pointer (some a)
 | .fn g f c, y => ∃ fs cs, y = .func (.func g) fs cs /\ AVRs β f fs.toList /\ AVRs β c cs.toList
 | .tup l, y => ∃ vs, y = .tuple vs /\ AVRs β l vs.toList
 | .agg l, y => ∃ vs, y = .agg vs /\ AVRs β l vs.toList
 | .yl b, y => y = .func (.yield (β b).g) #[] #[]
def AVRs (β : Nat -> Loc) : List AV -> List Value -> Prop
 | [], vs => vs = []
 | x :: xs, vs => ∃ u us, vs = u :: us /\ AVR β x u /\ AVRs β xs us
end
mutual
def AV.ok (n : Nat) : AV -> Prop
 | .p b _ => b < n
 | .q b _ _ _ => b < n
 | .e b _ _ => b < n
 | .s b _ => b < n
 | .w b _ _ => b < n
 | .arr b => b < n
 | .fn _ fs caps => AV.oks n fs /\ AV.oks n caps
 | .tup l => AV.oks n l
 | .agg l => AV.oks n l
 | .yl b => b < n
 | _ => True
def AV.oks (n : Nat) : List AV -> Prop
 | [] => True
 | x :: xs => AV.ok n x /\ AV.oks n xs
end
/-- The block that may be written. -/
def Blk.occ (l : Loc) : Blk -> Option Nat
 | .cells _ _ => some l.g
 | .row true _ _ _ => l.a.map (·.block)
 | .lp _ _ _ _ => some l.g
 | _ => none
section
open Go.Proofs.YtfdealobplcboaaGreatW.PrintLast Go.Proofs.YtfdealobplcboaaGreatW.PrintWords
def isActB : Op -> Bool
 | .alloc _ | .box _ _ | .buildSlice _ _ _ | .makeSlice _ _ _ => true
 | .call c => match c.callee with
  | .value _ => true
  | _ => false
 | _ => false
def isLoadB : Op -> Bool
 | .load _ _ => true
 | _ => false
def isStoreB : Op -> Bool
 | .store _ _ _ => true
 | .call c => match c.callee with
  | .builtin .append => true
  | _ => false
 | _ => false
def idsO : Ot -> List Nat
 | .br i _ nx => i :: idsO nx
 | _ => []
/-- Do these orders serve: what only reads goes first, what acts comes up alone, or all that is ready is tried. ds: the stores, and what acts behind one. -/
def chk (ops : Array Oper) (ds : List Nat) : Ot -> Nat -> Array Bool -> Bool -> Bool -> Bool
 | .nil, n, l, _, fl => !fl && n == 0 && Region.ready .any ops l == []
 | .stop, _, _, _, fl => fl
 | .op i r, n, l, sd, fl => !fl && match n with
  | 0 => false
  | n + 1 => match ops[i]? with
   | none => false
   | some o =>
    (if isStoreB o.op then readyB .any ops l (l.setIfInBounds i true) i && ds.contains i
     else if isActB o.op then readyB .any ops l (l.setIfInBounds i true) i && (!sd || ds.contains i)
     else if isLoadB o.op then !sd && takeB .any ops ds l (l.setIfInBounds i true) i
     else anyB .any ops l (l.setIfInBounds i true) i) && chk ops ds r n (l.setIfInBounds i true) (sd || isStoreB o.op) false
 | .br i r nx, n, l, sd, fl => (fl || Region.ready .any ops l == i :: idsO nx) && (match n with
  | 0 => false
  | n + 1 => match ops[i]? with
   | none => false
   | some o => (!isStoreB o.op || ds.contains i) && (!sd || ds.contains i) && chk ops ds r n (l.setIfInBounds i true) (sd || isStoreB o.op) false) && chk ops ds nx n l sd true
def dsOf (ops : Array Oper) : Ot -> Bool -> List Nat
 | .nil, _ => []
 | .stop, _ => []
 | .op i r, sd => match ops[i]? with
  | none => dsOf ops r sd
  | some o => if isStoreB o.op then i :: dsOf ops r true else if isActB o.op && sd then i :: dsOf ops r sd else dsOf ops r sd
 | .br i r nx, sd => (match ops[i]? with
  | none => dsOf ops r sd
  | some o => if isStoreB o.op then i :: dsOf ops r true else if sd then i :: dsOf ops r sd else dsOf ops r sd) ++ dsOf ops nx sd
def noDefer (ops : Array Oper) : Bool := ops.toList.all fun o => match o.op with | .defer _ => false | _ => true
def ordOk (ops : Array Oper) (t : Ot) : Bool := noDefer ops && chk ops (dsOf ops t false) t ops.size (Array.replicate ops.size false) false false
def codeOk (ord : List (Nat × Ot)) : Code -> Bool
 | .region id ops true => ordOk ops (ordOf ord id)
 | .seq a b => codeOk ord a && codeOk ord b
 | .cond _ a b => codeOk ord a && codeOk ord b
 | .block _ c => codeOk ord c
 | .loop c => codeOk ord c
 | .rangeFunc _ _ a b => codeOk ord a && codeOk ord b
 | .scope c => codeOk ord c
 | _ => true
end
/-- The record of a loop over a function. -/
def LSR (st : LS) (r : Loop) : Prop :=
 match st with
 | .ready => r.state = .ready /\ r.pending = none
 | .busy => r.state = .busy
 | .done .r => r.state = .done /\ r.pending = some .ret
 | .done (.e id) => r.state = .done /\ r.pending = some (.exit id)
 | .done _ => False
/-- A world at a start, and the blocks for deferred calls laid since, of which no one knows. -/
structure Base extends World where
 M : List Nat
instance : Coe Base World := ⟨Base.toWorld⟩
def Base.add (w : Base) (l : List Nat) : Base := { w with M := l ++ w.M }
def mark (g : Nat) : Deferred := { target := .collected g, args := #[] }
/-- The fence of a round, or of none. -/
def fen (r : Option Nat) : Fence := { fn := fun _ => True, depth := none, alive := false, round := r }
def Reads (w : World) (a : Option Addr) (c : Cd) (xs : List c.α) : Prop :=
 ∀ (i : Nat) x, xs[i]? = some x -> ∃ b, a = some b /\ ∀ (j : Nat) u, (c.enc x)[j]? = some u -> w.cell? (b.add (i * c.sz + j)) = some u
def BlkR (β : Nat -> Loc) (l : Loc) (w : World) : Blk -> Prop
 | .dead => True
 | .cells cs ty => ∃ vs, w.heap[l.g]? = some (.cells vs ty (0, 0)) /\ AVRs β cs vs.toList
 | .row true e c xs => c.Ok /\ l.z = c.sz /\ l.n = xs.length /\ w.ownsRow 0 e c.sz (.slice l.a l.n l.cap) l.n (xs.flatMap c.enc)
 | .row false e c xs => c.Ok /\ l.z = c.sz /\ l.n = xs.length /\ l.n <= l.cap /\ Reads w l.a c xs
 | .lp st t ps c => ∃ r : Loop, w.heap[l.g]? = some (.loop r) /\ LSR st r /\ AVRs β t r.tmps.toList /\ r.params.toList = ps /\ r.assign = (c ()).1 /\ r.body = (c ()).2.1 /\ codeOk (c ()).2.2.ord (c ()).1 = true /\ codeOk (c ()).2.2.ord (c ()).2.1 = true /\ (c ()).2.2.rd = true
def Blk.okh (n : Nat) : Blk -> Prop
 | .cells cs _ => AV.oks n cs
 | .lp _ t _ _ => AV.oks n t
 | _ => True
/-- The relation between the states: worlds. -/
structure RelW (w0 : Base) (β : Nat -> Loc) (h : List Blk) (w : World) : Prop where
 below : Below w0.heap.size w0 w
 blk : ∀ i b, h[i]? = some b -> BlkR β (β i) w b
 mine : ∀ (i : Nat) b g, h[i]? = some b -> b.occ (β i) = some g -> w0.heap.size <= g
 inj : ∀ (i j : Nat) bi bj g, h[i]? = some bi -> h[j]? = some bj -> bi.occ (β i) = some g -> bj.occ (β j) = some g -> i = j
 ro : ∀ (i j : Nat) e c xs bj g, h[i]? = some (.row false e c xs) -> xs ≠ [] -> h[j]? = some bj -> bj.occ (β j) = some g -> ∀ a, (β i).a = some a -> a.block ≠ g
 okh : ∀ b ∈ h, b.okh h.length
 mks : ∀ g ∈ w0.M, w0.heap.size <= g /\ w.heap[g]? = some (.deferred (some []))
 nd : w0.M.Nodup
structure RelT (ds : List Deferred) (β : Nat -> Loc) (n : Nat) (t : List AV) (a : Act) : Prop where
 rel : AVRs β t a.tmps.toList
 defers : a.defers = ds
 ok : AV.oks n t
/-- The numbering goes on. -/
def Ext (m : Nat) (β0 : Nat -> Loc) (h : List Blk) (β : Nat -> Loc) : Prop := m <= h.length /\ ∀ i, i < m -> β i = β0 i
/-- A call: what holds of what comes back. -/
structure CallTo (P : Program) (h : List Blk) (f : FuncId) (args : List AV) (K : AV -> List Blk -> Prop) : Prop where
 out : ∀ (w0 : Base) (β : Nat -> Loc) (w : World) (vs : Array Value), RelW w0 β h w -> AV.oks h.length args -> AVRs β args vs.toList ->
  (callFunc f vs).run P w = .ok (.enter f vs) w /\ Calls P f vs w fun e w' => ∃ v x h' β', e = .returned v /\ AVR β' x v /\ x.ok h'.length /\ RelW w0 β' h' w' /\ Ext h.length β h' β' /\ K x h'
/-- A condition, and what follows. -/
structure Need (p : Prop) (k : Unit -> Prop) : Prop where
 ok : p
 k : k ()
/-- A test. -/
structure fork (b : Bool) (x y : Unit -> Prop) : Prop where
 t : b = true -> x ()
 f : b = false -> y ()
/-- A slice against nil: it may be nil only if it is empty. -/
structure NilTo (l : Int) (k : Bool -> Prop) : Prop where
 out : ∀ v : Bool, (v = true -> l = 0) -> k v
def St.new (s : St) (b : Blk) : St := { s with h := s.h ++ [b] }
/-- A row of elements, laid. -/
def fillA (s : St) (z : Nat) : List AV -> List (Nat × Operand) -> Option (List AV)
 | cs, [] => some cs
 | cs, (i, x) :: rest =>
  if (cellsOf (ev s x)).length == z && (cellsOf (ev s x)).all AV.one && i * z + z <= cs.length then fillA s z (putAV cs (i * z) (cellsOf (ev s x))) rest else none
def repeatL : Nat -> List Value -> List AV
 | 0, _ => []
 | n + 1, l => l.map .v ++ repeatL n l
def lim (n0 : Option Nat) (s : St) : St :=
 match n0 with
 | some n => { s with h := s.h.take n }
 | none => s
/-- Elements out of cells. -/
def decAll (c : Cd) : Nat -> List Value -> Option (List c.α)
 | 0, _ => some []
 | n + 1, l => match c.dec (l.take c.sz), decAll c n (l.drop c.sz) with
  | some x, some xs => some (x :: xs)
  | _, _ => none
/-- Two lists of elements. -/
def Sm (c : Cd) (xs : List c.α) (c' : Cd) (ys : List c'.α) : Prop := (⟨c, xs⟩ : (c : Cd) × List c.α) = ⟨c', ys⟩
/-- What is appended: literal elements, or a row. -/
def appA (E : Env) (s : St) (c : Cd) (y : AV) (K : List c.α -> Prop) : Prop :=
 match y with
 | .q b o l _ => match s.h[b]? with
  | some (.cells cs _) => match plain ((cs.drop o).take (l * c.sz)) with
   | some us => if us.length == l * c.sz then match decAll c l us with
    | some ys => K ys
    | none => False
    else False
   | none => False
  | _ => False
 | .s b l => match s.h[b]? with
  | some (.row _ _ c' ys) => ∃ zs : List c.α, Sm c zs c' (E.tk c'.α ys l) /\ K zs
  | _ => False
 | .w b o l => match s.h[b]? with
  | some (.row _ _ c' ys) => ∃ zs : List c.α, Sm c zs c' (E.wnd c'.α ys o l) /\ K zs
  | _ => False
 | _ => False
/-- A byte in its cell. -/
def cB : Cd := ⟨Int, fun x => [.int .u8 x], fun l => match l with
 | [.int .u8 x] => some x
 | _ => none, 0, 1⟩
def Op.isNil : AV -> Bool
 | .c (.slice none 0 0) => true
 | .v (.slice none 0 0) => true
 | _ => false
/-- A window of the same row. -/
def inRow (b : Nat) : AV -> Option (Int × Int)
 | .w b' o l => if b' == b then some (o, l) else none
 | _ => none
/-- The number by which the rounds of a loop over a function are called. -/
def yieldId : FuncId := 4000000007
def realA (g : FuncId) (first caps : List AV) : Option (FuncId × List AV × List AV) := if g == yieldId then none else some (g, first, caps)
def actA (P : Program) (E : Env) (tt : Tab) (C : List Blk -> FuncId -> List AV -> (AV -> List Blk -> Prop) -> Prop) (n0 : Option Nat) (o : Oper) (s : St) (K : St -> Prop) : Prop :=
 match o.op with
 | .load t x => match loadA E tt (lim n0 s) t x with
  | some y => if n0.isNone || y.det then K (s.put o.dst y) else False
  | none => False
 | .alloc t => if tt.has t then
   (if (tt.at t).kind == 2 then match (tt.at (tt.at t).elem).cd with
    | some c => if tt.has (tt.at t).elem && (tt.at t).len <= 1000 then Need ((tt.at t).zero = (List.replicate (tt.at t).len c.z).flatMap c.enc) fun _ => K ((s.new (.row true t c (E.rep c.α (E.nof (tt.at t).len) c.z))).put o.dst (.arr s.h.length)) else False
    | none => K ((s.new (.cells ((tt.at t).zero.map .v) t)).put o.dst (.p s.h.length 0))
   else K ((s.new (.cells ((tt.at t).zero.map .v) t)).put o.dst (.p s.h.length 0)))
  else False
 | .box t x => match ev s x with
  | .any => False
  | .tup _ => False
  | y => K ((s.new (.cells (cellsOf y) t)).put o.dst (.p s.h.length 0))
 | .store t x y => match ev s x with
  | .p b d => match s.h[b]? with
   | some (.cells cs ty) =>
    if (cellsOf (ev s y)).length == (tt.at t).sz && (cellsOf (ev s y)).all AV.one && tt.has t && d + (cellsOf (ev s y)).length <= cs.length then
     K (({ s with h := s.h.set b (.cells (putAV cs d (cellsOf (ev s y))) ty) } : St).put o.dst (.v undef))
    else False
   | _ => False
  | .e b i d => match s.h[b]? with
   | some (.row true e c xs) => match plain (cellsOf (ev s y)) with
    | some us => if us.length == (tt.at t).sz && tt.has t && d + us.length <= c.sz then match c.dec (if us.length == c.sz then us else putAt (c.enc (E.get c.α xs i c.z)) d us) with
     | some u => K (({ s with h := s.h.set b (.row true e c (E.set c.α xs i u)) } : St).put o.dst (.v undef))
     | none => False
     else False
    | none => False
   | _ => False
  | _ => False
 | .binOp op t x y _ => if n0.isNone && (tt.at t).kind == 3 && Op.isNil (ev s y) then (match op with
   | .eql => if Op.isNil (ev s x) then K (s.put o.dst (.c (.bool true))) else match ev s x with
    | .s b l => match s.h[b]? with
     | some (.row _ _ _ _) => NilTo l fun v => K (s.put o.dst (.v (.bool v)))
     | _ => False
    | .w b _ l => match s.h[b]? with
     | some (.row _ _ _ _) => NilTo l fun v => K (s.put o.dst (.v (.bool v)))
     | _ => False
    | _ => False
   | _ => False)
  else False
 | .buildSlice t len parts =>
  if (tt.at t).kind == 3 && len == 0 && parts.size == 0 && tt.has (tt.at t).elem then match (tt.at (tt.at t).elem).cd with
   | some cd => K ((s.new (.row true (tt.at t).elem cd [])).put o.dst (.s s.h.length 0))
   | none => False
  else if (tt.at t).kind == 3 && decide (0 < len) && tt.has t && tt.has (tt.at t).elem && len * (tt.at (tt.at t).elem).sz <= 1000 && (tt.at (tt.at t).elem).zero.length == (tt.at (tt.at t).elem).sz && 0 < (tt.at (tt.at t).elem).sz then
   match fillA s (tt.at (tt.at t).elem).sz (repeatL len (tt.at (tt.at t).elem).zero) parts.toList with
   | some cs => K ((s.new (.cells cs (tt.at t).elem)).put o.dst (.q s.h.length 0 len len))
   | none => False
  else False
 | .makeSlice t l c => if (tt.at t).kind == 3 && tt.has (tt.at t).elem then match (tt.at (tt.at t).elem).cd, sv s l, sv s c with
   | some cd, some (_, .int _ n), some (_, .int _ m) => Need (E.rng 0 n m /\ E.fits m (tt.at (tt.at t).elem).bytes) fun _ => K ((s.new (.row true (tt.at t).elem cd (E.rep cd.α n cd.z))).put o.dst (.s s.h.length n))
   | _, _, _ => False
  else False
 | .convert a b x => if n0.isNone && (tt.at b).kind == 4 && (tt.at a).kind == 3 && tt.has (tt.at a).elem && (tt.at (tt.at a).elem).kind == 5 && (tt.at (tt.at a).elem).sz == 1 then (match (tt.at (tt.at a).elem).ik with
   | .u8 => match ev s x with
    | .s b l => match s.h[b]? with
     | some (.row _ _ c xs) => Need (∀ y : c.α, ∃ n, c.enc y = [.int .u8 n]) fun _ => K (s.put o.dst (.v (.string (E.b2s c.α c.enc (E.tk c.α xs l)))))
     | _ => False
    | .w b o' l => match s.h[b]? with
     | some (.row _ _ c xs) => Need (∀ y : c.α, ∃ n, c.enc y = [.int .u8 n]) fun _ => K (s.put o.dst (.v (.string (E.b2s c.α c.enc (E.wnd c.α xs o' l)))))
     | _ => False
    | .q _ _ _ _ => appA E s cB (ev s x) fun ys => K (s.put o.dst (.v (.string (E.b2s Int cB.enc ys))))
    | _ => False
   | _ => False)
  else False
 | .call c => match c.callee with
  | .value f => match (match ev s f with
    | .yl b => some (yieldId, [.yl b], [])
    | .c (.func (.func g) first caps) => realA g (first.toList.map AV.v) (caps.toList.map AV.v)
    | .v (.func (.func g) first caps) => realA g (first.toList.map AV.v) (caps.toList.map AV.v)
    | .fn g first caps => realA g first caps
    | _ => none) with
   | some (g, first, caps) => C s.h g (first ++ c.args.toList.map (ev s) ++ caps) (fun u h' => match n0 with
    | none => K (({ s with h := h' } : St).put o.dst u)
    | some _ => h'.take s.h.length = s.h /\ K (({ s with h := h' } : St).put o.dst u))
   | none => False
  | .builtin .append => match c.args.toList, c.argTypes.toList with
   | [x, y], [t, t'] => if t == t' && (tt.at t).kind == 3 && tt.has (tt.at t).elem then match (tt.at (tt.at t).elem).cd with
    | some cd =>
     if Op.isNil (ev s x) then appA E s cd (ev s y) fun ys => Need (E.fits (E.len cd.α ys) (tt.at (tt.at t).elem).bytes) fun _ => K ((s.new (.row true (tt.at t).elem cd ys)).put o.dst (.s s.h.length (E.len cd.α ys)))
     else match ev s x with
     | .s b l => match s.h[b]? with
      | some (.row true e cd' xs) => if e == (tt.at t).elem && cd'.sz == (tt.at (tt.at t).elem).sz then (match inRow b (ev s y) with
        | some (o', m) => Need (E.rng 0 (E.ad l m) (E.len cd'.α xs)) fun _ =>
         K (({ s with h := s.h.set b (.row true e cd' (E.app cd'.α (E.tk cd'.α xs l) (E.app cd'.α (E.wnd cd'.α xs o' m) (E.wnd cd'.α xs (E.ad l m) (E.sb (E.len cd'.α xs) (E.ad l m)))))) } : St).put o.dst (.s b (E.ad l m)))
        | none => appA E s cd' (ev s y) fun ys => Need (E.fits (E.ad l (E.len cd'.α ys)) (tt.at (tt.at t).elem).bytes) fun _ =>
        K ((({ s with h := s.h.set b .dead } : St).new (.row true e cd' (E.app cd'.α (E.tk cd'.α xs l) ys))).put o.dst (.s s.h.length (E.ad l (E.len cd'.α ys)))))
       else False
      | _ => False
     | _ => False
    | none => False
    else False
   | _, _ => False
  | .builtin .clear => match n0, c.args.toList, c.argTypes.toList with
   | none, [x], [t] => if (tt.at t).kind == 3 && tt.has (tt.at t).elem then match ev s x with
    | .w b p l => match s.h[b]? with
     | some (.row true e cd xs) => Need (cd.enc cd.z = (tt.at (tt.at t).elem).zero /\ E.ad p l = E.len cd.α xs) fun _ =>
       K (({ s with h := s.h.set b (.row true e cd (E.app cd.α (E.tk cd.α xs p) (E.rep cd.α l cd.z))) } : St).put o.dst .any)
     | _ => False
    | _ => False
    else False
   | _, _, _ => False
  | _ => False
 | _ => False
def stepP (P : Program) (E : Env) (tt : Tab) (C : List Blk -> FuncId -> List AV -> (AV -> List Blk -> Prop) -> Prop) (n0 : Option Nat) (o : Oper) (s : St) (K : St -> Prop) : Prop :=
 match pureA E tt s o.op with
 | some (none, x) => K (s.put o.dst x)
 | some (some p, x) => Need p (fun _ => K (s.put o.dst x))
 | none => actA P E tt C n0 o s K
def skipP (o : Oper) (s : St) (K : St -> Prop) : Prop := K (s.put o.dst (.v undef))
def guardP (P : Program) (E : Env) (tt : Tab) (C : List Blk -> FuncId -> List AV -> (AV -> List Blk -> Prop) -> Prop) (n0 : Option Nat) (ops : List Oper) (o : Oper) (s : St) (K : St -> Prop) : Prop :=
 match o.guard with
 | none => stepP P E tt C n0 o s K
 | some (j, want) => match ops[j]? with
  | some oj => match oj.dst with
   | some d => match s.t[d]? with
    | some (.c (.bool b)) => if b == want then stepP P E tt C n0 o s K else skipP o s K
    | some (.v (.bool b)) => if want then fork b (fun _ => stepP P E tt C n0 o { s with t := s.t.set d (.c (.bool true)) } K) (fun _ => skipP o { s with t := s.t.set d (.c (.bool false)) } K)
     else fork b (fun _ => skipP o { s with t := s.t.set d (.c (.bool true)) } K) (fun _ => stepP P E tt C n0 o { s with t := s.t.set d (.c (.bool false)) } K)
    | some (.v (.tuple _)) => skipP o s K
    | _ => False
   | none => False
  | none => False
def runOrd (P : Program) (E : Env) (tt : Tab) (C : List Blk -> FuncId -> List AV -> (AV -> List Blk -> Prop) -> Prop) (n0 : Option Nat) (ops : List Oper) : List Nat -> St -> (St -> Prop) -> Prop
 | [], s, K => K s
 | i :: is, s, K => match ops[i]? with
  | some o => guardP P E tt C n0 ops o s (fun s' => runOrd P E tt C n0 ops is s' K)
  | none => False
structure Both (p q : Unit -> Prop) : Prop where
 l : p ()
 r : q ()
def runOt (P : Program) (E : Env) (tt : Tab) (C : List Blk -> FuncId -> List AV -> (AV -> List Blk -> Prop) -> Prop) (n0 : Option Nat) (ops : List Oper) : Ot -> St -> (St -> Prop) -> Prop
 | .nil, s, K => K s
 | .stop, _, _ => True
 | .op i r, s, K => match ops[i]? with
  | some o => guardP P E tt C n0 ops o s (fun s' => runOt P E tt C n0 ops r s' K)
  | none => False
 | .br i r nx, s, K => match ops[i]? with
  | some o => Both (fun _ => guardP P E tt C n0 ops o s (fun s' => runOt P E tt C n0 ops r s' K)) (fun _ => runOt P E tt C n0 ops nx s K)
  | none => False
/-- What holds at an exit. -/
def QQ (w0 : Base) (m : Nat) (β0 : Nat -> Loc) (K : X -> St -> Prop) (e : Exit) (a : Act) (w : World) : Prop :=
 match e with
 | .normal => ∃ (s : St) (β : Nat -> Loc) (M : List Nat), RelT (M.map mark) β s.h.length s.t a /\ RelW (w0.add M) β s.h w /\ Ext m β0 s.h β /\ K .n s
 | .exit id => ∃ (s : St) (β : Nat -> Loc) (M : List Nat), RelT (M.map mark) β s.h.length s.t a /\ RelW (w0.add M) β s.h w /\ Ext m β0 s.h β /\ K (.e id) s
 | .ret => ∃ (s : St) (β : Nat -> Loc) (M : List Nat), RelT (M.map mark) β s.h.length s.t a /\ RelW (w0.add M) β s.h w /\ Ext m β0 s.h β /\ K .r s
 | .goto l => ∃ (s : St) (β : Nat -> Loc) (M : List Nat), RelT (M.map mark) β s.h.length s.t a /\ RelW (w0.add M) β s.h w /\ Ext m β0 s.h β /\ K (.g l) s
 | _ => False
def rounds (F : (X -> St -> Prop) -> St -> Prop) (K : X -> St -> Prop) : Nat -> St -> Prop
 | 0, _ => False
 | m + 1, s => F (fun x s' => match x with
  | .n => rounds F K m s'
  | x => K x s') s
def upTo : Nat -> Nat -> List Nat
 | _, 0 => []
 | i, n + 1 => i :: upTo (i + 1) n
/-- A loop that is not unrolled: the round is told. -/
structure LoopTo (P : Program) (m : Nat) (c : Unit -> Code) (B : Unit -> (X -> St -> Prop) -> St -> Prop) (K : X -> St -> Prop) (s : St) : Prop where
 out : ∀ r : Option Nat, (∀ (w0 : Base) (β0 : Nat -> Loc) (K : X -> St -> Prop) (s : St) (β : Nat -> Loc) (M : List Nat) (a : Act) (w : World), B () K s -> RelT (M.map mark) β s.h.length s.t a -> RelW (w0.add M) β s.h w -> Ext m β0 s.h β -> (c ()).wpIn (fen r) 0 P (QQ w0 m β0 K) a w) ->
  ∀ (w0 : Base) (β0 : Nat -> Loc) (β : Nat -> Loc) (M : List Nat) (a : Act) (w : World), RelT (M.map mark) β s.h.length s.t a -> RelW (w0.add M) β s.h w -> Ext m β0 s.h β -> (Code.loop (c ())).wpIn (fen r) 0 P (QQ w0 m β0 K) a w
/-- A drawn region with choices: told, so that its ends may be told as one. -/
structure DrawTo (P : Program) (m : Nat) (c : Unit -> Code) (B : Unit -> (X -> St -> Prop) -> Prop) (K : X -> St -> Prop) (s : St) : Prop where
 out : ∀ r : Option Nat, (∀ (w0 : Base) (β0 : Nat -> Loc) (K : X -> St -> Prop) (β : Nat -> Loc) (M : List Nat) (a : Act) (w : World), B () K -> RelT (M.map mark) β s.h.length s.t a -> RelW (w0.add M) β s.h w -> Ext m β0 s.h β -> (c ()).wpIn (fen r) 0 P (QQ w0 m β0 K) a w) ->
  ∀ (w0 : Base) (β0 : Nat -> Loc) (β : Nat -> Loc) (M : List Nat) (a : Act) (w : World), RelT (M.map mark) β s.h.length s.t a -> RelW (w0.add M) β s.h w -> Ext m β0 s.h β -> (c ()).wpIn (fen r) 0 P (QQ w0 m β0 K) a w
/-- From a label on, in a scope whose whole code is cc: at the label the rest is run anew. -/
def ReIn (F : Fence) (n : Nat) (P : Program) (cc rest : Code) (Q : Exit -> Act -> World -> Prop) (a : Act) (w : World) : Prop :=
 ∀ (b : Frame) (k : List Item) (cs : List Frame), b.roundOf = F.round -> F.fn b.fn -> F.room (cs.length + 1 + n) ->
  ∃ e a' w', Q e a' w' /\ ArrivesIn (Machine.fenced P F) P (lone (b.atR a (.code rest :: .inScope cc :: k)) cs w) b k cs e a' w'
def JmpIn (F : Fence) (n : Nat) (P : Program) (cc rest : Code) (l : Nat) (Q : Exit -> Act -> World -> Prop) (e : Exit) (a : Act) (w : World) : Prop :=
 match e with
 | .goto l' => l' = l /\ ReIn F n P cc rest Q a w
 | e => Q e a w
/-- The rest of a function behind a label, to which it may jump back: told. -/
structure ScopeTo (P : Program) (m : Nat) (l : Nat) (c : Unit -> Code) (B : Unit -> (X -> St -> Prop) -> St -> Prop) (K : X -> St -> Prop) (s : St) : Prop where
 out : (∀ (w0 : Base) (β0 : Nat -> Loc) (K : X -> St -> Prop) (s : St) (β : Nat -> Loc) (M : List Nat) (a : Act) (w : World), B () K s -> RelT (M.map mark) β s.h.length s.t a -> RelW (w0.add M) β s.h w -> Ext m β0 s.h β -> (c ()).wpIn (fen none) 0 P (QQ w0 m β0 K) a w) ->
  ∀ (cc : Code), findLabel cc l = some (.seq .skip (c ())) -> ∀ (w0 : Base) (β0 : Nat -> Loc) (β : Nat -> Loc) (M : List Nat) (a : Act) (w : World), RelT (M.map mark) β s.h.length s.t a -> RelW (w0.add M) β s.h w -> Ext m β0 s.h β -> (c ()).wpIn (fen none) 0 P (JmpIn (fen none) 0 P cc (.seq .skip (c ())) l (QQ w0 m β0 K)) a w
/-- The function that is ranged over. -/
def calleeA (s : St) (f : Operand) : Option (FuncId × List AV × List AV) :=
 match ev s f with
 | .c (.func (.func g) first caps) => realA g (first.toList.map AV.v) (caps.toList.map AV.v)
 | .v (.func (.func g) first caps) => realA g (first.toList.map AV.v) (caps.toList.map AV.v)
 | .fn g first caps => realA g first caps
 | _ => none
def wpP (P : Program) (E : Env) (tt : Tab) (C : List Blk -> FuncId -> List AV -> (AV -> List Blk -> Prop) -> Prop) (g : Cfg) (m : Nat) : Code -> (X -> St -> Prop) -> St -> Prop
 | .skip, K, s => K .n s
 | .ret, K, s => K .r s
 | .exit id, K, s => K (.e id) s
 | .goto l, K, s => K (.g l) s
 | .seq a b, K, s => wpP P E tt C g m a (fun x s' => match x with
  | .n => wpP P E tt C g m b K s'
  | x => K x s') s
 | .block id c, K, s => wpP P E tt C g m c (fun x s' => match x with
  | .e j => if j == id then K .n s' else K (.e j) s'
  | x => K x s') s
 | .cond c a b, K, s => match ev s c with
  | .c (.bool true) => wpP P E tt C g m a K s
  | .c (.bool false) => wpP P E tt C g m b K s
  | .v (.bool t) => fork t (fun _ => wpP P E tt C g m a K s) (fun _ => wpP P E tt C g m b K s)
  | _ => False
 | .region id ops draws, K, s => if draws then (if (ordOf g.ord id).hasBr then DrawTo P m (fun _ => .region id ops true) (fun _ K => runOt P E tt C (some s.h.length) ops.toList (ordOf g.ord id) s (fun s' => K .n s')) K s else runOt P E tt C (some s.h.length) ops.toList (ordOf g.ord id) s (fun s' => K .n s')) else runOrd P E tt C none ops.toList (upTo 0 ops.toList.length) s (fun s' => K .n s')
 | .rangeFunc f ps asg body, K, s => if g.rd then False else match calleeA s f with
  | some (i, first, caps) => C (s.h ++ [.lp .ready s.t ps.toList (fun _ => (asg, body, { g with rd := true }))]) i (first ++ [.yl s.h.length] ++ caps) (fun _ h' => match h'[s.h.length]? with
   | some (.lp .ready _ _ _) => K .n { s with h := h'.set s.h.length .dead }
   | some (.lp (.done x) _ _ _) => K x { s with h := h'.set s.h.length .dead }
   | _ => False)
  | none => False
 | .loop c, K, s => if g.unr c == 0 then LoopTo P m (fun _ => c) (fun _ => wpP P E tt C g m c) K s else rounds (wpP P E tt C g m c) K (g.unr c) s
 | _, _, _ => False
def resA (E : Env) (tt : Tab) (s : St) : List ResultVar -> Option (List AV)
 | [] => some []
 | .tmp t :: l => match s.t.getD t .any, resA E tt s l with
  | .any, _ => none
  | x, some r => some (x :: r)
  | _, _ => none
 | .cell a t :: l => match loadA E tt s t (.tmp a), resA E tt s l with
  | some x, some r => some (x :: r)
  | _, _ => none
def oneOf : List AV -> AV
 | [x] => x
 | l => match plain l with
  | some r => .v (.tuple r.toArray)
  | none => .tup l
/-- A scope whose label follows two pieces of code. -/
def scopeOf : Code -> Option (Code × Nat × Code)
 | .scope (.seq a (.seq b (.seq (.label l) r))) => if (findLabel a l).isNone && (findLabel b l).isNone then some (.seq a b, l, r) else none
 | _ => none
/-- A function's body, on a heap. -/
def runFn (P : Program) (E : Env) (tt : Tab) (C : List Blk -> FuncId -> List AV -> (AV -> List Blk -> Prop) -> Prop) (g : Cfg) (fn : Func) (h : List Blk) (args : List AV) (R : AV -> List Blk -> Prop) : Prop :=
 match fn.body with
 | some c => match scopeOf c with
  | some (a, l, r) => wpP P E tt C g h.length a (fun x s => match x with
   | .n => ScopeTo P h.length l (fun _ => r) (fun _ => wpP P E tt C g h.length r) (fun x s => match x with
    | .e _ => False
    | .g _ => False
    | _ => match resA E tt s fn.results.toList with
     | some vs => R (oneOf vs) s.h
     | none => False) s
   | _ => False) ⟨args ++ List.replicate (fn.ntmps - args.length) (.v undef), h⟩
  | none => wpP P E tt C g h.length c (fun x s => match x with
   | .e _ => False
   | .g _ => False
   | _ => match resA E tt s fn.results.toList with
    | some vs => R (oneOf vs) s.h
    | none => False) ⟨args ++ List.replicate (fn.ntmps - args.length) (.v undef), h⟩
 | none => False
def putPs : List AV -> List Tmp -> List AV -> List AV
 | t, p :: ps, x :: xs => putPs (t.set p x) ps xs
 | t, _, _ => t
/-- A round of a loop over a function: the loop's left sides, then the body. -/
def yieldP (P : Program) (E : Env) (tt : Tab) (C : List Blk -> FuncId -> List AV -> (AV -> List Blk -> Prop) -> Prop) (h : List Blk) (args : List AV) (R : AV -> List Blk -> Prop) : Prop :=
 match args with
 | .yl b :: args => match h[b]? with
  | some (.lp .ready t ps c) => if args.length == ps.length then
    wpP P E tt C (c ()).2.2 h.length (c ()).1 (fun x s => match x with
     | .n => (match s.h[b]? with
      | some (.lp .ready t' ps' c') => wpP P E tt C (c ()).2.2 h.length (c ()).2.1 (fun x s => match s.h[b]? with
       | some (.lp .busy t' ps' c') => (match x with
        | .n => R (.c (.bool true)) (s.h.set b (.lp .ready t' ps' c'))
        | .g _ => False
        | x => R (.c (.bool false)) (s.h.set b (.lp (.done x) t' ps' c')))
       | _ => False) { s with h := s.h.set b (.lp .busy t' ps' c') }
      | _ => False)
     | _ => False) ⟨putPs t ps args, h⟩
   else False
  | _ => False
 | _ => False
/-- Calls: what is listed is walked into, d deep. -/
def calls (P : Program) (E : Env) (tt : Tab) (inl : List (FuncId × Func × Cfg)) : Nat -> List Blk -> FuncId -> List AV -> (AV -> List Blk -> Prop) -> Prop
 | 0, h, f, args, K => if f == yieldId then False else CallTo P h f args K
 | d + 1, h, f, args, K => if f == yieldId then yieldP P E tt (calls P E tt inl d) h args K else match inl.find? fun e => e.1 == f with
  | some (_, fn, g) => runFn P E tt (calls P E tt inl d) g fn h args K
  | none => CallTo P h f args K
def kindB : TypeDesc -> Nat
 | .struct _ => 1
 | .array _ _ => 2
 | .slice _ => 3
 | .string => 4
 | .int _ => 5
 | .bool => 6
 | _ => 0
def elemB : TypeDesc -> TypeId
 | .slice e => e
 | .array _ e => e
 | _ => 0
def lenB : TypeDesc -> Nat
 | .array n _ => n
 | _ => 0
def ikB : TypeDesc -> IntKind
 | .int k => k
 | _ => .i64
def fldsB (P : Program) : TypeDesc -> List (Nat × Nat × Bool)
 | .struct fs => fs.toList.map fun f => (f.offset, ((P.info? f.type).map (·.size)).getD 0, ((P.underlying f.type).map fun d => isAggB (kindB d)).getD false)
 | _ => []
/-- A struct's fields' types are known. -/
def fldsOk (P : Program) : TypeDesc -> Bool
 | .struct fs => fs.toList.all fun f => (P.info? f.type).isSome && (P.underlying f.type).isSome
 | _ => true
structure TyOk (P : Program) (t : TypeId) (ti : TI) : Prop where
 info : (P.info? t).map (fun i => (i.zero, i.size, i.bytes)) = some (some (if isAggB ti.kind then .agg ti.zero.toArray else ti.zero.headD undef), ti.sz, ti.bytes)
 und : (P.underlying t).map (fun d => (kindB d, elemB d, ikB d, fldsB P d, fldsOk P d, lenB d)) = some (ti.kind, ti.elem, ti.ik, ti.flds, true, ti.len)
 one : isAggB ti.kind = false -> ∃ x, ti.zero = [x] /\ x.cells = #[x]
 sz : ti.sz = ti.zero.length
 cd : ∀ c, ti.cd = some c -> c.Ok /\ c.enc c.z = ti.zero /\ c.sz = ti.sz
 eq : ti.eq = true -> ti.kind = 1 /\ ∀ (xs ys : Array Value) (w : World) (x y : Operand), shape ti.zero xs.toList = true -> shape ti.zero ys.toList = true ->
  (do eqGuard .eql t x y (.agg xs) (.agg ys); binOp .eql t (.agg xs) (.agg ys)).run P w = .ok (.bool (eqCells xs.toList ys.toList)) w /\
  (do eqGuard .neq t x y (.agg xs) (.agg ys); binOp .neq t (.agg xs) (.agg ys)).run P w = .ok (.bool (!eqCells xs.toList ys.toList)) w
def TabOk (P : Program) (tt : Tab) : Prop := ∀ e ∈ tt, TyOk P e.1 e.2
theorem TabOk.nil (P : Program) : TabOk P [] := fun _ h => by cases h
theorem TabOk.cons {P : Program} {t : TypeId} {ti : TI} {tt : Tab} (h : TyOk P t ti) (hs : TabOk P tt) : TabOk P ((t, ti) :: tt) := by
 intro e he
 rcases List.mem_cons.1 he with rfl | he
 ·exact h
 ·exact hs e he
end Go.Proofs.YtfdealobplcboaaGreat.Sx

set_option linter.unusedVariables false
set_option linter.unusedSimpArgs false
namespace Go.Proofs.YtfdealobplcboaaGreat.Sx
open Go.RowKit Go.Proofs.YtfdealobplcboaaGreatW.PrintLast Go.Proofs.YtfdealobplcboaaGreatW.PrintWords
section
variable {β β' : Nat -> Loc}
theorem AVRs_length : ∀ {l : List AV} {vs : List Value}, AVRs β l vs -> vs.length = l.length
 | [], vs, h => by simp only [AVRs] at h; subst h; rfl
 | x :: l, vs, h => by
  obtain ⟨u, us, rfl, _, h2⟩ := h
  simp [AVRs_length h2]
theorem AVRs_get : ∀ {l : List AV} {vs : List Value}, AVRs β l vs -> ∀ {i : Nat} {x : AV}, l[i]? = some x -> ∃ u, vs[i]? = some u /\ AVR β x u
 | [], vs, h, i, x, hx => by simp at hx
 | y :: l, vs, h, i, x, hx => by
  obtain ⟨u, us, rfl, h1, h2⟩ := h
  cases i with
  | zero => simp at hx; subst hx; exact ⟨u, rfl, h1⟩
  | succ i => simp at hx; simpa using AVRs_get h2 hx
theorem AVRs_of : ∀ {l : List AV} {vs : List Value}, vs.length = l.length -> (∀ (i : Nat) x u, l[i]? = some x -> vs[i]? = some u -> AVR β x u) -> AVRs β l vs
 | [], vs, h, _ => by cases vs with
  | nil => rfl
  | cons _ _ => simp at h
 | x :: l, vs, h, hg => by
  cases vs with
  | nil => simp at h
  | cons u us => exact ⟨u, us, rfl, hg 0 x u rfl rfl, AVRs_of (by simpa using h) (fun i y v hy hv => hg (i + 1) y v (by simpa using hy) (by simpa using hv))⟩
theorem AVRs.nil : AVRs β [] [] := rfl
theorem AVRs.cons {x : AV} {u : Value} {l : List AV} {us : List Value} (h : AVR β x u) (hs : AVRs β l us) : AVRs β (x :: l) (u :: us) := ⟨u, us, rfl, h, hs⟩
theorem AVRs.append : ∀ {l l' : List AV} {us us' : List Value}, AVRs β l us -> AVRs β l' us' -> AVRs β (l ++ l') (us ++ us')
 | [], l', us, us', h, h' => by simp only [AVRs] at h; subst h; exact h'
 | x :: l, l', us, us', h, h' => by
  obtain ⟨u, r, rfl, h1, h2⟩ := h
  exact ⟨u, r ++ us', rfl, h1, h2.append h'⟩
theorem AVRs.vs (l : List Value) : AVRs β (l.map .v) l := by
 induction l with
 | nil => rfl
 | cons a l ih => exact ⟨a, l, rfl, rfl, ih⟩
theorem AVRs.take {l : List AV} {us : List Value} (h : AVRs β l us) (n : Nat) : AVRs β (l.take n) (us.take n) := by
 refine AVRs_of (by simp [AVRs_length h]) (fun i x u hx hu => ?_)
 rw [List.getElem?_take] at hx hu
 split at hx
 ·rename_i hlt
  rw [if_pos hlt] at hu
  obtain ⟨v, hv, hr⟩ := AVRs_get h hx
  rw [hu] at hv; injection hv with hv; subst hv; exact hr
 ·cases hx
theorem AVRs.drop {l : List AV} {us : List Value} (h : AVRs β l us) (n : Nat) : AVRs β (l.drop n) (us.drop n) := by
 refine AVRs_of (by simp [AVRs_length h]) (fun i x u hx hu => ?_)
 rw [List.getElem?_drop] at hx hu
 obtain ⟨v, hv, hr⟩ := AVRs_get h hx
 rw [hu] at hv; injection hv with hv; subst hv; exact hr
theorem AVRs.set {l : List AV} {us : List Value} (h : AVRs β l us) {x : AV} {u : Value} (hx : AVR β x u) (i : Nat) : AVRs β (l.set i x) (us.set i u) := by
 refine AVRs_of (by simp [AVRs_length h]) (fun j y v hy hv => ?_)
 rw [List.getElem?_set] at hy hv
 split at hy
 ·rename_i e; subst e
  rw [if_pos rfl] at hv
  split at hy
  ·rename_i hlt
   rw [if_pos (by rw [AVRs_length h]; exact hlt)] at hv
   injection hy with hy; subst hy; injection hv with hv; subst hv; exact hx
  ·cases hy
 ·rename_i e
  rw [if_neg e] at hv
  obtain ⟨z, hz, hr⟩ := AVRs_get h hy
  rw [hv] at hz; injection hz with hz; subst hz; exact hr
theorem AVRs.put : ∀ {xs : List AV} {us : List Value} {l : List AV} {cs : List Value} (o : Nat), AVRs β l cs -> AVRs β xs us -> AVRs β (putAV l o xs) (putAt cs o us)
 | [], us, l, cs, o, h, hx => by simp only [AVRs] at hx; subst hx; exact h
 | x :: xs, us, l, cs, o, h, hx => by
  obtain ⟨u, r, rfl, h1, h2⟩ := hx
  exact AVRs.put (o + 1) (h.set h1 o) h2
mutual
theorem AVR_congr : ∀ {n : Nat} {x : AV} {y : Value}, x.ok n -> (∀ i, i < n -> β' i = β i) -> AVR β x y -> AVR β' x y
 | _, .any, _, _, _, _ => by simp only [AVR]
 | _, .c _, _, _, _, h => by simp only [AVR] at h ⊢; exact h
 | _, .v _, _, _, _, h => by simp only [AVR] at h ⊢; exact h
 | _, .p b o, _, hk, hb, h => by simp only [AVR, AV.ok] at h hk ⊢; rw [hb b hk]; exact h
 | _, .q b o l c, _, hk, hb, h => by simp only [AVR, AV.ok] at h hk ⊢; rw [hb b hk]; exact h
 | _, .e b i o, _, hk, hb, h => by simp only [AVR, AV.ok] at h hk ⊢; rw [hb b hk]; exact h
 | _, .s b l, _, hk, hb, h => by simp only [AVR, AV.ok] at h hk ⊢; rw [hb b hk]; exact h
 | _, .w b o l, _, hk, hb, h => by simp only [AVR, AV.ok] at h hk ⊢; rw [hb b hk]; exact h
 | _, .arr b, _, hk, hb, h => by simp only [AVR, AV.ok] at h hk ⊢; rw [hb b hk]; exact h
 | _, .yl b, _, hk, hb, h => by simp only [AVR, AV.ok] at h hk ⊢; rw [hb b hk]; exact h
 | _, .fn g f c, _, hk, hb, h => by
  simp only [AVR, AV.ok] at h hk ⊢
  obtain ⟨fs, cs, h1, h2, h3⟩ := h
  exact ⟨fs, cs, h1, AVRs_congr hk.1 hb h2, AVRs_congr hk.2 hb h3⟩
 | _, .tup l, _, hk, hb, h => by
  simp only [AVR, AV.ok] at h hk ⊢
  obtain ⟨vs, h1, h2⟩ := h
  exact ⟨vs, h1, AVRs_congr hk hb h2⟩
 | _, .agg l, _, hk, hb, h => by
  simp only [AVR, AV.ok] at h hk ⊢
  obtain ⟨vs, h1, h2⟩ := h
  exact ⟨vs, h1, AVRs_congr hk hb h2⟩
theorem AVRs_congr : ∀ {n : Nat} {l : List AV} {vs : List Value}, AV.oks n l -> (∀ i, i < n -> β' i = β i) -> AVRs β l vs -> AVRs β' l vs
 | _, [], _, _, _, h => by simp only [AVRs] at h ⊢; exact h
 | _, x :: l, _, hk, hb, h => by
  simp only [AVRs, AV.oks] at h hk ⊢
  obtain ⟨u, us, h1, h2, h3⟩ := h
  exact ⟨u, us, h1, AVR_congr hk.1 hb h2, AVRs_congr hk.2 hb h3⟩
end
mutual
theorem AV.ok_mono : ∀ {n m : Nat} {x : AV}, x.ok n -> n <= m -> x.ok m
 | _, _, .any, _, _ => by simp only [AV.ok]
 | _, _, .c _, _, _ => by simp only [AV.ok]
 | _, _, .v _, _, _ => by simp only [AV.ok]
 | _, _, .p b o, h, hm => by simp only [AV.ok] at h ⊢; omega
 | _, _, .q b o l k, h, hm => by simp only [AV.ok] at h ⊢; omega
 | _, _, .e b i o, h, hm => by simp only [AV.ok] at h ⊢; omega
 | _, _, .s b l, h, hm => by simp only [AV.ok] at h ⊢; omega
 | _, _, .w b o l, h, hm => by simp only [AV.ok] at h ⊢; omega
 | _, _, .arr b, h, hm => by simp only [AV.ok] at h ⊢; omega
 | _, _, .yl b, h, hm => by simp only [AV.ok] at h ⊢; omega
 | _, _, .fn g f k, h, hm => by simp only [AV.ok] at h ⊢; exact ⟨AV.oks_mono h.1 hm, AV.oks_mono h.2 hm⟩
 | _, _, .tup l, h, hm => by simp only [AV.ok] at h ⊢; exact AV.oks_mono h hm
 | _, _, .agg l, h, hm => by simp only [AV.ok] at h ⊢; exact AV.oks_mono h hm
theorem AV.oks_mono : ∀ {n m : Nat} {l : List AV}, AV.oks n l -> n <= m -> AV.oks m l
 | _, _, [], _, _ => by simp only [AV.oks]
 | _, _, x :: l, h, hm => by simp only [AV.oks] at h ⊢; exact ⟨AV.ok_mono h.1 hm, AV.oks_mono h.2 hm⟩
end
theorem oks_mem {n : Nat} : ∀ {l : List AV}, AV.oks n l -> ∀ x ∈ l, x.ok n
 | [], _, x, hx => by cases hx
 | y :: l, h, x, hx => by
  simp only [AV.oks] at h
  rcases List.mem_cons.1 hx with rfl | hx
  ·exact h.1
  ·exact oks_mem h.2 x hx
theorem oks_of {n : Nat} : ∀ {l : List AV}, (∀ x ∈ l, x.ok n) -> AV.oks n l
 | [], _ => by simp only [AV.oks]
 | y :: l, h => by simp only [AV.oks]; exact ⟨h y (by simp), oks_of (fun x hx => h x (by simp [hx]))⟩
theorem oks_append {n : Nat} {l l' : List AV} (h : AV.oks n l) (h' : AV.oks n l') : AV.oks n (l ++ l') :=
 oks_of fun x hx => (List.mem_append.1 hx).elim (oks_mem h x) (oks_mem h' x)
theorem oks_vs {n : Nat} (l : List Value) : AV.oks n (l.map .v) := oks_of fun x hx => by
 obtain ⟨y, _, rfl⟩ := List.mem_map.1 hx; simp only [AV.ok]
theorem oks_take {n : Nat} {l : List AV} (h : AV.oks n l) (k : Nat) : AV.oks n (l.take k) := oks_of fun x hx => oks_mem h x (List.mem_of_mem_take hx)
theorem oks_drop {n : Nat} {l : List AV} (h : AV.oks n l) (k : Nat) : AV.oks n (l.drop k) := oks_of fun x hx => oks_mem h x (List.mem_of_mem_drop hx)
theorem putAt_length : ∀ (xs cs : List Value) (o : Nat), (putAt cs o xs).length = cs.length
 | [], cs, o => rfl
 | x :: xs, cs, o => by simp [putAt, putAt_length xs]
theorem putAV_mem : ∀ {xs l : List AV} {o : Nat} {y : AV}, y ∈ putAV l o xs -> y ∈ l \/ y ∈ xs
 | [], l, o, y, h => .inl h
 | x :: xs, l, o, y, h => by
  simp only [putAV] at h
  rcases putAV_mem h with h | h
  ·rcases List.mem_or_eq_of_mem_set h with h | h
   ·exact .inl h
   ·exact .inr (by simp [h])
  ·exact .inr (by simp [h])
theorem cells_rel {x : AV} {v : Value} (h : AVR β x v) (hx : x ≠ .any) (ht : ∀ l, x ≠ .tup l) : AVRs β (cellsOf x) v.cells.toList := by
 cases x with
 | any => exact absurd rfl hx
 | tup l => exact absurd rfl (ht l)
 | c y =>
  simp only [AVR] at h; subst h
  cases v with
  | agg cs => exact AVRs.vs _
  | _ => exact AVRs.cons (by simp only [AVR]) AVRs.nil
 | v y =>
  simp only [AVR] at h; subst h
  cases v with
  | agg cs => exact AVRs.vs _
  | _ => exact AVRs.cons (by simp only [AVR]) AVRs.nil
 | agg l => simp only [AVR] at h; obtain ⟨vs, rfl, h⟩ := h; exact h
 | p b o => have h' := h; simp only [AVR] at h'; subst h'; exact AVRs.cons h AVRs.nil
 | q b o l c => have h' := h; simp only [AVR] at h'; subst h'; exact AVRs.cons h AVRs.nil
 | e b i o => have h' := h; simp only [AVR] at h'; obtain ⟨_, _, a, _, rfl⟩ := h'; exact AVRs.cons h AVRs.nil
 | s b l => have h' := h; simp only [AVR] at h'; obtain ⟨_, _, rfl⟩ := h'; exact AVRs.cons h AVRs.nil
 | w b o l => have h' := h; simp only [AVR] at h'; obtain ⟨_, _, _, a, c, rfl, _⟩ := h'; exact AVRs.cons h AVRs.nil
 | arr b => have h' := h; simp only [AVR] at h'; obtain ⟨a, _, _, rfl⟩ := h'; exact AVRs.cons h AVRs.nil
 | fn g f c => have h' := h; simp only [AVR] at h'; obtain ⟨fs, cs, rfl, _⟩ := h'; exact AVRs.cons h AVRs.nil
 | yl b => have h' := h; simp only [AVR] at h'; subst h'; exact AVRs.cons h AVRs.nil
theorem cells_ok {x : AV} {m : Nat} (h : x.ok m) : AV.oks m (cellsOf x) := by
 cases x with
 | v u => cases u with
  | agg cs => exact oks_vs _
  | _ => simp only [cellsOf, AV.oks, AV.ok]; trivial
 | c u => cases u with
  | agg cs => exact oks_vs _
  | _ => simp only [cellsOf, AV.oks, AV.ok]; trivial
 | agg l => simp only [AV.ok] at h; exact h
 | _ => simp only [cellsOf, AV.oks]; exact ⟨h, trivial⟩
theorem one_rel {x : AV} {u : Value} (h : AVR β x u) (ho : x.one = true) : u.oneCell' = true := by
 cases x with
 | any => simp [AV.one] at ho
 | tup l => simp [AV.one] at ho
 | agg l => simp [AV.one] at ho
 | v y => simp only [AVR] at h; subst h; cases u <;> simp [AV.one] at ho <;> rfl
 | c y => simp only [AVR] at h; subst h; cases u <;> simp [AV.one] at ho <;> rfl
 | p b o => simp only [AVR] at h; subst h; rfl
 | q b o l c => simp only [AVR] at h; subst h; rfl
 | e b i o => simp only [AVR] at h; obtain ⟨_, _, a, _, rfl⟩ := h; rfl
 | s b l => simp only [AVR] at h; obtain ⟨_, _, rfl⟩ := h; rfl
 | w b o l => simp only [AVR] at h; obtain ⟨_, _, _, a, c, rfl, _⟩ := h; rfl
 | arr b => simp only [AVR] at h; obtain ⟨a, _, _, rfl⟩ := h; rfl
 | fn g f c => simp only [AVR] at h; obtain ⟨fs, cs, rfl, _⟩ := h; rfl
 | yl b => simp only [AVR] at h; subst h; rfl
theorem AV.one_ne {x : AV} (h : (cellsOf x).all AV.one = true) : x ≠ .any /\ ∀ l, x ≠ .tup l := by
 constructor
 ·rintro rfl; simp [cellsOf, AV.one] at h
 ·rintro l rfl; simp [cellsOf, AV.one] at h
theorem one_all {l : List AV} {us : List Value} (h : AVRs β l us) (ho : l.all AV.one = true) : ∀ u ∈ us, u.oneCell' = true := by
 intro u hu
 obtain ⟨j, hj⟩ := List.getElem?_of_mem hu
 have hjlt : j < l.length := by rw [<- AVRs_length h]; exact (List.getElem?_eq_some_iff.1 hj).1
 obtain ⟨v, hv, hr⟩ := AVRs_get h (List.getElem?_eq_getElem hjlt)
 rw [hj] at hv; injection hv with hv; subst hv
 exact one_rel hr (List.all_eq_true.1 ho _ (List.getElem_mem hjlt))
theorem plain_rel : ∀ {l : List AV} {r us : List Value}, plain l = some r -> AVRs β l us -> us = r
 | [], r, us, h, hr => by simp only [plain] at h; injection h with h; subst h; exact hr
 | .v x :: l, r, us, h, hr => by
  simp only [plain] at h
  obtain ⟨u, vs, rfl, h1, h2⟩ := hr
  split at h
  ·rename_i q hq
   injection h with h; subst h
   simp only [AVR] at h1; subst h1
   rw [plain_rel hq h2]
  ·cases h
 | .c x :: l, r, us, h, hr => by
  simp only [plain] at h
  obtain ⟨u, vs, rfl, h1, h2⟩ := hr
  split at h
  ·rename_i q hq
   injection h with h; subst h
   simp only [AVR] at h1; subst h1
   rw [plain_rel hq h2]
  ·cases h
 | .any :: _, _, _, h, _ => by simp [plain] at h
 | .p _ _ :: _, _, _, h, _ => by simp [plain] at h
 | .q _ _ _ _ :: _, _, _, h, _ => by simp [plain] at h
 | .e _ _ _ :: _, _, _, h, _ => by simp [plain] at h
 | .s _ _ :: _, _, _, h, _ => by simp [plain] at h
 | .w _ _ _ :: _, _, _, h, _ => by simp [plain] at h
 | .arr _ :: _, _, _, h, _ => by simp [plain] at h
 | .yl _ :: _, _, _, h, _ => by simp [plain] at h
 | .fn _ _ _ :: _, _, _, h, _ => by simp [plain] at h
 | .tup _ :: _, _, _, h, _ => by simp [plain] at h
 | .agg _ :: _, _, _, h, _ => by simp [plain] at h
theorem mkAgg_rel {l : List AV} {us : List Value} (h : AVRs β l us) : AVR β (mkAgg l) (.agg us.toArray) := by
 unfold mkAgg
 split
 ·rename_i r hr
  rw [plain_rel hr h]; simp only [AVR]
 ·simp only [AVR]; exact ⟨_, rfl, h⟩
theorem mkAgg_ok {l : List AV} {n : Nat} (h : AV.oks n l) : (mkAgg l).ok n := by
 unfold mkAgg
 split
 ·simp only [AV.ok]
 ·simp only [AV.ok]; exact h
theorem val_rel {x : AV} {b : Bool} {u y : Value} (h : x.val = some (b, u)) (hr : AVR β x y) : y = u := by
 cases x <;> simp [AV.val] at h
 ·simp only [AVR] at hr; rw [hr, h.2]
 ·simp only [AVR] at hr; rw [hr, h.2]
end
end Go.Proofs.YtfdealobplcboaaGreat.Sx
