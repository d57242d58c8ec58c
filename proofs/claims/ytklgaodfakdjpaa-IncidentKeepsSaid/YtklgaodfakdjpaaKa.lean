/- Pure data for a Go program's values, and an interpreter of the model's code over it: definitions alone. -/
import Derived.Orders
import Derived.Tactics
import Derived.KernelRfl
import Derived.Laws.OwnMore
import Derived.Laws.Cells
import Derived.Laws.Rows
import Derived.Laws.CopyRow
import Derived.Below
set_option linter.unusedVariables false
namespace Go.Proofs.Ytklgaodfakdjpaa.Ev
open Go

/-! ### 1. The data that slices hold -/
structure Spot where
  x : Int
  y : Int
structure Leg where
  fr : Spot
  to_ : Spot
  start : Int
  arrive : Int
  leave : Int
  fuel : Int
structure Box where
  low : Spot
  high : Spot
  fr : Int
  to_ : Int
  level : Int
structure Front where
  fr : Int
  to_ : Int
  low : Spot
  high : Spot
  sea : Int
  wind : Int
structure Way where
  to_ : Spot
  stay : Int
structure Unit' where
  name : ByteArray
  speed : Int
  fuel : Int
  burn : Int
  reserve : Int
  hours : Int
  sea : Int
  wind : Int
  base : Spot
  margin : Int
  level : Int
structure Arr3 where
  x0 : Int
  x1 : Int
  x2 : Int
structure Report where
  kind : Int
  time : Int
  source : ByteArray
  about : ByteArray
  wher : List Spot
  souls : Int
  trust : Int
structure Proof where
  kind : Int
  report : Int
  time : Int
  by_ : ByteArray
  wher : List Spot
  count : Int
structure Act' where
  what : Int
  n : Int
  m : Int
  r : Report
  p : Proof
structure Entry where
  r : Report
  of_ : Int
/-- What a proof that was kept is; of an exercise nothing is remembered. -/
inductive PrV
  | found (n : Int)
  | owner (b : ByteArray)
  | arrived (b : ByteArray)
  | withdrawn (b : ByteArray)
  | exercise
structure Proved where
  report : Int
  time : Int
  proof : PrV

inductive ETy
  | int | u8 | bool | spot | leg | box | front | way | unit | arr3 | report | proof | act | entry | proved
  deriving DecidableEq
abbrev ETy.den : ETy → Type
  | .int => Int
  | .u8 => Int
  | .bool => Bool
  | .spot => Spot
  | .leg => Leg
  | .box => Box
  | .front => Front
  | .way => Way
  | .unit => Unit'
  | .arr3 => Arr3
  | .report => Report
  | .proof => Proof
  | .act => Act'
  | .entry => Entry
  | .proved => Proved
/-- Cells, and bytes, of an element. -/
def ETy.size : ETy → Nat
  | .int => 1
  | .u8 => 1
  | .bool => 1
  | .spot => 2
  | .leg => 8
  | .box => 7
  | .front => 8
  | .way => 3
  | .unit => 12
  | .arr3 => 3
  | .report => 7
  | .proof => 6
  | .act => 16
  | .entry => 8
  | .proved => 3
def ETy.bytes : ETy → Nat
  | .int => 8
  | .u8 => 1
  | .bool => 1
  | .spot => 16
  | .leg => 64
  | .box => 56
  | .front => 64
  | .way => 24
  | .unit => 104
  | .arr3 => 24
  | .report => 88
  | .proof => 72
  | .act => 184
  | .entry => 96
  | .proved => 32
def ETy.agg : ETy → Bool
  | .int => false
  | .u8 => false
  | .bool => false
  | _ => true

/-! ### 2. Pure values -/
inductive PV : Type
  | junk
  | b (x : Bool)
  | i (k : IntKind) (x : Int)
  | s (x : ByteArray)
  | sl (T : ETy) (xs : List T.den)
  | slz (T : ETy) (xs : List T.den)
  | nsl (e : TypeId) (T : ETy)
  | own (id : Nat)
  | ref (id off : Nat)
  | eref (id : Nat) (T : ETy) (ix off : Nat)
  | ptr (cells : List PV) (off : Nat)
  | nilp
  | fn (f : Fn) (first caps : List PV)
  | nilf
  | agg (xs : List PV)
  | tup (xs : List PV)
  | iface (t : TypeId) (v : PV)
  | nili
  | nils
  | yld (id : Nat)
  | gd (ch : List (Nat × Bool)) (p : PV)

def n64 (x : Int) : PV := .i .i64 x
abbrev Spot.pcs (p : Spot) : List PV := [.i .i64 p.x, .i .i64 p.y]
abbrev Report.pcs (r : Report) : List PV := [.i .i64 r.kind, .i .i64 r.time, .s r.source, .s r.about, .sl .spot r.wher, .i .i64 r.souls, .i .i64 r.trust]
abbrev Proof.pcs (p : Proof) : List PV := [.i .i64 p.kind, .i .i64 p.report, .i .i64 p.time, .s p.by_, .sl .spot p.wher, .i .i64 p.count]
def PrV.ty : PrV → Nat
  | .found _ => 99
  | .owner _ => 122
  | .arrived _ => 123
  | .withdrawn _ => 124
  | .exercise => 126
def PrV.arg : PrV → PV
  | .found n => .agg [.i .i64 n]
  | .owner x => .agg [.s x]
  | .arrived x => .agg [.s x]
  | .withdrawn x => .agg [.s x]
  | .exercise => .junk
def PrV.pv (q : PrV) : PV := .iface q.ty q.arg
def ETy.cells : (T : ETy) → T.den → List PV
  | .int, x => [.i .i64 x]
  | .u8, x => [.i .u8 x]
  | .bool, x => [.b x]
  | .spot, p => [.i .i64 p.x, .i .i64 p.y]
  | .leg, l => [.i .i64 l.fr.x, .i .i64 l.fr.y, .i .i64 l.to_.x, .i .i64 l.to_.y, .i .i64 l.start, .i .i64 l.arrive, .i .i64 l.leave, .i .i64 l.fuel]
  | .box, l => [.i .i64 l.low.x, .i .i64 l.low.y, .i .i64 l.high.x, .i .i64 l.high.y, .i .i64 l.fr, .i .i64 l.to_, .i .i64 l.level]
  | .front, l => [.i .i64 l.fr, .i .i64 l.to_, .i .i64 l.low.x, .i .i64 l.low.y, .i .i64 l.high.x, .i .i64 l.high.y, .i .i64 l.sea, .i .i64 l.wind]
  | .way, l => [.i .i64 l.to_.x, .i .i64 l.to_.y, .i .i64 l.stay]
  | .unit, u => [.s u.name, .i .i64 u.speed, .i .i64 u.fuel, .i .i64 u.burn, .i .i64 u.reserve, .i .i64 u.hours, .i .i64 u.sea, .i .i64 u.wind, .i .i64 u.base.x, .i .i64 u.base.y, .i .i64 u.margin, .i .i64 u.level]
  | .arr3, a => [.i .i64 a.x0, .i .i64 a.x1, .i .i64 a.x2]
  | .report, r => [.i .i64 r.kind, .i .i64 r.time, .s r.source, .s r.about, .sl .spot r.wher, .i .i64 r.souls, .i .i64 r.trust]
  | .proof, p => [.i .i64 p.kind, .i .i64 p.report, .i .i64 p.time, .s p.by_, .sl .spot p.wher, .i .i64 p.count]
  | .act, a => [.i .i64 a.what, .i .i64 a.n, .i .i64 a.m, .i .i64 a.r.kind, .i .i64 a.r.time, .s a.r.source, .s a.r.about, .sl .spot a.r.wher, .i .i64 a.r.souls, .i .i64 a.r.trust,
      .i .i64 a.p.kind, .i .i64 a.p.report, .i .i64 a.p.time, .s a.p.by_, .sl .spot a.p.wher, .i .i64 a.p.count]
  | .entry, e => [.i .i64 e.r.kind, .i .i64 e.r.time, .s e.r.source, .s e.r.about, .sl .spot e.r.wher, .i .i64 e.r.souls, .i .i64 e.r.trust, .i .i64 e.of_]
  | .proved, p => [.i .i64 p.report, .i .i64 p.time, p.proof.pv]
/-- An element as one value. -/
def ETy.val (T : ETy) (x : T.den) : PV := match T.agg with
  | true => .agg (T.cells x)
  | false => (T.cells x).headD .junk

def PrV.dec : PV → Option PrV
  | .iface 99 (.agg [.i .i64 n]) => some (.found n)
  | .iface 122 (.agg [.s x]) => some (.owner x)
  | .iface 123 (.agg [.s x]) => some (.arrived x)
  | .iface 124 (.agg [.s x]) => some (.withdrawn x)
  | .iface 126 _ => some .exercise
  | _ => none
/-- An element out of its cells. -/
def ETy.dec : (T : ETy) → List PV → Option T.den
  | .int, [.i .i64 x] => some x
  | .u8, [.i .u8 x] => some x
  | .bool, [.b x] => some x
  | .spot, [.i .i64 x, .i .i64 y] => some ⟨x, y⟩
  | .leg, [.i .i64 a, .i .i64 b, .i .i64 c, .i .i64 d, .i .i64 e, .i .i64 f, .i .i64 g, .i .i64 h] => some ⟨⟨a, b⟩, ⟨c, d⟩, e, f, g, h⟩
  | .box, [.i .i64 a, .i .i64 b, .i .i64 c, .i .i64 d, .i .i64 e, .i .i64 f, .i .i64 g] => some ⟨⟨a, b⟩, ⟨c, d⟩, e, f, g⟩
  | .front, [.i .i64 a, .i .i64 b, .i .i64 c, .i .i64 d, .i .i64 e, .i .i64 f, .i .i64 g, .i .i64 h] => some ⟨a, b, ⟨c, d⟩, ⟨e, f⟩, g, h⟩
  | .way, [.i .i64 a, .i .i64 b, .i .i64 c] => some ⟨⟨a, b⟩, c⟩
  | .unit, [.s n, .i .i64 a, .i .i64 b, .i .i64 c, .i .i64 d, .i .i64 e, .i .i64 f, .i .i64 g, .i .i64 h, .i .i64 i, .i .i64 j, .i .i64 k] => some ⟨n, a, b, c, d, e, f, g, ⟨h, i⟩, j, k⟩
  | .arr3, [.i .i64 a, .i .i64 b, .i .i64 c] => some ⟨a, b, c⟩
  | .report, [.i .i64 a, .i .i64 b, .s c, .s d, .sl .spot e, .i .i64 f, .i .i64 g] => some ⟨a, b, c, d, e, f, g⟩
  | .proof, [.i .i64 a, .i .i64 b, .i .i64 c, .s d, .sl .spot e, .i .i64 f] => some ⟨a, b, c, d, e, f⟩
  | .act, [.i .i64 w, .i .i64 n, .i .i64 m, .i .i64 a, .i .i64 b, .s c, .s d, .sl .spot e, .i .i64 f, .i .i64 g, .i .i64 a', .i .i64 b', .i .i64 c', .s d', .sl .spot e', .i .i64 f'] =>
      some ⟨w, n, m, ⟨a, b, c, d, e, f, g⟩, ⟨a', b', c', d', e', f'⟩⟩
  | .entry, [.i .i64 a, .i .i64 b, .s c, .s d, .sl .spot e, .i .i64 f, .i .i64 g, .i .i64 o] => some ⟨⟨a, b, c, d, e, f, g⟩, o⟩
  | .proved, [.i .i64 a, .i .i64 b, p] => match PrV.dec p with
      | some q => some ⟨a, b, q⟩
      | none => none
  | _, _ => none

/-- The mutable things that a value leads to, by their numbers. -/
def PV.ids : PV → List Nat
  | .own j => [j]
  | .ref j _ => [j]
  | .eref j _ _ _ => [j]
  | .yld j => [j]
  | .ptr cs _ => idsL cs
  | .fn _ a c => idsL a ++ idsL c
  | .agg xs => idsL xs
  | .tup xs => idsL xs
  | .iface _ v => v.ids
  | .gd _ p => p.ids
  | _ => []
where
  idsL : List PV → List Nat
    | [] => []
    | p :: ps => p.ids ++ idsL ps

/-- One cell? -/
def PV.one : PV → Bool
  | .junk => false
  | .agg _ => false
  | .tup _ => false
  | .gd _ _ => false
  | _ => true
def PV.flat : PV → List PV
  | .agg xs => xs
  | p => [p]
def PV.scal1 : PV → Bool
  | .b _ => true
  | .i _ _ => true
  | .s _ => true
  | _ => false
def PV.scal2 : PV → Bool
  | .agg xs => xs.all PV.scal1
  | p => p.scal1
def PV.scal : PV → Bool
  | .tup xs => xs.all PV.scal2
  | p => p.scal2

/-! ### 3. Memory, types, the state -/
/-- How a loop's record stands: ready; a round is under way; left by a return; over. -/
inductive LB | ready | busy | ret | over | overRet
def LB.st : LB → LoopState
  | .ready => .ready
  | .busy => .busy
  | .ret => .done
  | _ => .exhausted
def LB.pe : LB → Option Code
  | .ret => some .ret
  | .overRet => some .ret
  | _ => none
inductive Blk
  | cells (t : TypeId) (ps : List PV)
  | row (T : ETy) (e : TypeId) (xs : List T.den)
  | loop (b : LB)
abbrev Heap := List (Option Blk)
def look (H : Heap) (i : Nat) : Option Blk := H.getD i none
structure St where
  T : List PV
  H : Heap

inductive Sk
  | bool | int (k : IntKind) | str | ptr | func | iface | tup | other
  | slice (e : TypeId)
  | arr (n : Nat) (e : TypeId)
  | struct (fs : List (Nat × TypeId))
def sk : TypeDesc → Sk
  | .bool => .bool
  | .int k => .int k
  | .string => .str
  | .pointer _ => .ptr
  | .slice e => .slice e
  | .array n e => .arr n e
  | .struct fs => .struct (fs.toList.map fun f => (f.offset, f.type))
  | .func _ _ _ => .func
  | .interface _ => .iface
  | .tuple _ => .tup
  | _ => .other
def Sk.agg : Sk → Bool
  | .struct _ => true
  | .arr _ _ => true
  | _ => false
/-- What is told of a type: its cells, the zero value's, and its shape. -/
structure TI where
  size : Nat
  zp : List PV
  k : Sk

/-- Functions, by their numbers: where the arguments have the form: a condition, and the value where it holds. -/
abbrev Gam := FuncId → List PV → Option (Bool × PV)
/-- A function that is handed objects: where its arguments, and the objects, have the form: a condition; the value and the objects where it holds. -/
abbrev ObjF := List PV → Heap → Option (Bool × PV × Heap)
/-- What the interpreter is told: the types; the element of a slice's kind; the functions; the package-level variables; where boxes and slices are to be mutable; types whose values are compared cell by cell; methods. -/
structure Cx where
  tab : TypeId → Option TI
  ety : TypeId → Option ETy
  G : Gam
  gl : Nat → PV
  bxs : List Nat
  ows : List Nat
  eqs : TypeId → Nat
  meth : TypeId → String → Option FuncId
  O : FuncId → Option (Nat × ObjF)
  Y : Option ObjF
  ties : List (Nat × Nat)
  rl : Loop → Prop
  nob : Bool

abbrev Chain := List (Nat × Bool)
def cv : Value → PV
  | .bool x => .b x
  | .int k x => .i k x
  | .string x => .s x
  | .slice none 0 0 => .nils
  | .pointer none => .nilp
  | .nilFunc => .nilf
  | .nilIface => .nili
  | _ => .junk
def pre : Chain → Chain → Bool
  | [], _ => true
  | _ :: _, [] => false
  | (a, x) :: l, (b, y) :: r => Nat.beq a b && (x == y) && pre l r
def PV.under (c : Chain) : PV → PV
  | .gd ch p => match pre ch c with
    | true => p
    | false => .junk
  | p => p
def opd (gl : Nat → PV) (T : List PV) (c : Chain) : Operand → PV
  | .tmp t => (T.getD t .junk).under c
  | .const v => cv v
  | .global g => gl g
  | .func f => .fn (.func f) [] []

/-- Cells as one value of a type. -/
def mk (ag : Bool) (cs : List PV) : Option PV := match ag with
  | true => some (.agg cs)
  | false => match cs with
    | [p] => some p
    | _ => none
def part (ti : TI) (cs : List PV) (off : Nat) : Option PV :=
  let r := (cs.drop off).take ti.size
  match Nat.beq r.length ti.size && r.all PV.one with
  | true => mk ti.k.agg r
  | false => none
/-- Cells with others laid over them. -/
def put (cs : List PV) (off : Nat) (ps : List PV) : Option (List PV) := match Nat.ble (off + ps.length) cs.length && ps.all PV.one with
  | true => some (cs.take off ++ ps ++ cs.drop (off + ps.length))
  | false => none
def ixl {α : Type} (xs : List α) (i : Int) : Option α := if 0 ≤ i then xs[i.toNat]? else none
def ixs (s : ByteArray) (i : Int) : Option UInt8 := if 0 ≤ i then s[i.toNat]? else none
def bytesOf (s : ByteArray) : List Int := s.data.toList.map fun b => (b.toNat : Int)

def arith (op : BinOp) (k : IntKind) (a b : Int) : Option PV := match op with
  | .add => some (.i k (k.wrap (a + b)))
  | .sub => some (.i k (k.wrap (a - b)))
  | .mul => some (.i k (k.wrap (a * b)))
  | .quo => match b == 0 with
    | true => none
    | false => some (.i k (k.wrap (a.tdiv b)))
  | .rem => match b == 0 with
    | true => none
    | false => some (.i k (a.tmod b))
  | .or => some (.i k (k.wrap (BitVec.ofInt k.bits a ||| BitVec.ofInt k.bits b).toNat))
  | .eql => some (.b (a == b))
  | .neq => some (.b (a != b))
  | .lss => some (.b (a < b))
  | .leq => some (.b (a ≤ b))
  | .gtr => some (.b (a > b))
  | .geq => some (.b (a ≥ b))
  | _ => none
def shr (k : IntKind) (a b : Int) : Option PV := if b < 0 then none else some (.i k (a.fdiv (2 ^ min b.toNat k.bits)))
/-- Are cells the same? (Whole numbers, strings and truth values.) -/
def eqCells : List PV → List PV → Option Bool
  | [], [] => some true
  | .i .i64 a :: xs, .i .i64 b :: ys => match eqCells xs ys with
    | some r => some (a == b && r)
    | none => none
  | _, _ => none
def isPtr (C : Cx) (t : TypeId) : Bool := match C.tab t with
  | some ⟨_, _, .ptr⟩ => true
  | _ => false
def isSlT (C : Cx) (t : TypeId) : Bool := match C.tab t with
  | some ⟨_, _, .slice _⟩ => true
  | _ => false
def binop (C : Cx) (op : BinOp) (t : TypeId) (x y : PV) : Option PV := match x, y with
  | .i k a, .i k' b => match op with
    | .shr => shr k a b
    | _ => match decide (k = k') with
      | true => arith op k a b
      | false => none
  | .s a, .s b => match op with
    | .eql => some (.b (a.toList == b.toList))
    | .neq => some (.b (!(a.toList == b.toList)))
    | _ => none
  | .agg xs, .agg ys => match Nat.beq (xs.length + 1) (C.eqs t), eqCells xs ys, op with
    | true, some r, .eql => some (.b r)
    | true, some r, .neq => some (.b (!r))
    | _, _, _ => none
  | .b a, .b b => match C.tab t with
    | some ⟨_, _, .bool⟩ => match op with
      | .eql => some (.b (a == b))
      | .neq => some (.b (!(a == b)))
      | _ => none
    | _ => none
  | .nilp, .nilp => match isPtr C t, op with
    | true, .eql => some (.b true)
    | true, .neq => some (.b false)
    | _, _ => none
  | .ptr _ _, .nilp => match isPtr C t, op with
    | true, .eql => some (.b false)
    | true, .neq => some (.b true)
    | _, _ => none
  | .ref _ _, .nilp => match isPtr C t, op with
    | true, .eql => some (.b false)
    | true, .neq => some (.b true)
    | _, _ => none
  | .nsl _ _, .nils => match isSlT C t, op with
    | true, .eql => some (.b true)
    | true, .neq => some (.b false)
    | _, _ => none
  | .slz _ _, .nils => match isSlT C t, op with
    | true, .eql => some (.b false)
    | true, .neq => some (.b true)
    | _, _ => none
  | _, _ => none

def imax (x y : Int) : Int := if y > x then y else x
def imin (x y : Int) : Int := if y < x then y else x

/-- A value as others may read it: what is mutable is laid open. -/
def borrow : Nat → Heap → PV → PV
  | 0, _, _ => .junk
  | n + 1, H, p => match p.ids with
    | [] => p
    | _ => match p with
      | .own i => match look H i with
        | some (.row T _ xs) => .sl T xs
        | _ => .junk
      | .ref i off => match look H i with
        | some (.cells _ ps) => .ptr (ps.map (borrow n H)) off
        | _ => .junk
      | .eref i T ix off => match look H i with
        | some (.row T' _ xs) => if T = T' then (match xs[ix]? with
          | some x => .ptr (T'.cells x) off
          | none => .junk) else .junk
        | _ => .junk
      | .ptr cs off => .ptr (cs.map (borrow n H)) off
      | .fn f a c => .fn f (a.map (borrow n H)) (c.map (borrow n H))
      | .agg xs => match (xs.map (borrow n H)).all PV.one with
        | true => .agg (xs.map (borrow n H))
        | false => .junk
      | .tup xs => .tup (xs.map (borrow n H))
      | .iface t v => .iface t (borrow n H v)
      | _ => .junk

/-- nil, where its type is known to be a slice's. -/
def typed (C : Cx) (t : TypeId) : PV → PV
  | .nils => match C.tab t with
    | some ⟨_, _, .slice e⟩ => match C.ety e with
      | some T => .nsl e T
      | none => .nils
    | _ => .nils
  | p => p
/-- What is handed on: whether a slice is nil is forgotten. -/
def PV.soft : PV → PV
  | .nsl _ T => .sl T []
  | .slz T xs => .sl T xs
  | p => p
def typedL (C : Cx) : List TypeId → List PV → List PV
  | t :: ts, p :: ps => (typed C t p).soft :: typedL C ts ps
  | _, ps => ps

/-- What an operation does: its value; a mutable thing that is made or written; one whose elder copies die; which ones it looked at. -/
structure Eff where
  p : PV
  hu : List (Nat × Option Blk) := []
  kl : List Nat := []
  fp : List Nat := []
def lid (d : Option Nat) : Nat := match d with
  | some d => d + 8
  | none => 0
def has (l : List Nat) (n : Nat) : Bool := l.any (Nat.beq n)
def stale (H : Heap) (i : Nat) : List Nat := match look H i with
  | none => []
  | some _ => [i]
def made (H : Heap) (i : Nat) (b : Blk) (p : PV) : Option Eff := match Nat.ble 8 i && Nat.ble (i + 1) H.length with
  | true => some ⟨p, [(i, some b)], stale H i, [i]⟩
  | false => none

def fills (C : Cx) (place : Nat → Option (Nat × Nat)) : List (Nat × PV) → List PV → Option (List PV)
  | [], cs => some cs
  | (i, p) :: rest, cs => match place i with
    | some (off, n) => match Nat.beq p.flat.length n with
      | true => match put cs off p.flat with
        | some cs' => fills C place rest cs'
        | none => none
      | false => none
    | none => none
def decAll (T : ETy) : Nat → List PV → Option (List T.den)
  | 0, _ => some []
  | n + 1, cs => match T.dec (cs.take T.size) with
    | some x => match decAll T n (cs.drop T.size) with
      | some xs => some (x :: xs)
      | none => none
    | none => none
def rep (n : Nat) (l : List PV) : List PV := match n with
  | 0 => []
  | n + 1 => l ++ rep n l

def callB (C : Cx) (H : Heap) (dst : Option Nat) (b : Builtin) (tys : List TypeId) (ps : List PV) : Option Eff := match b, ps with
  | .len, [p] => match tys with
    | [t] => match C.tab t with
      | some ⟨_, _, .slice _⟩ => match p with
        | .sl _ xs => some { p := .i .i64 xs.length }
        | .slz _ xs => some { p := .i .i64 xs.length }
        | .nils => some { p := .i .i64 0 }
        | .nsl _ _ => some { p := .i .i64 0 }
        | .own i => match look H i with
          | some (.row _ _ xs) => some { p := .i .i64 xs.length, fp := [i] }
          | _ => none
        | _ => none
      | some ⟨_, _, .str⟩ => match p with
        | .s s => some { p := .i .i64 s.size }
        | _ => none
      | _ => none
    | _ => none
  | .max, [.i k x, .i _ y] => some { p := .i k (imax x y) }
  | .min, [.i k x, .i _ y] => some { p := .i k (imin x y) }
  | .append, [.own i, src] => match look H i, tys with
    | some (.row T e xs), [t, t'] => match Nat.beq t t', C.tab t with
      | true, some ⟨_, _, .slice e'⟩ => match Nat.beq e e', src with
        | true, .sl T' ys => if h : T' = T then (match decide ((xs.length + ys.length) * T.bytes ≤ 140737488355328) with
          | true => some ⟨.own i, [(i, some (.row T e (xs ++ h ▸ ys)))], [i], [i]⟩
          | false => none) else none
        | true, .slz T' ys => if h : T' = T then (match decide ((xs.length + ys.length) * T.bytes ≤ 140737488355328) with
          | true => some ⟨.own i, [(i, some (.row T e (xs ++ h ▸ ys)))], [i], [i]⟩
          | false => none) else none
        | true, .own j => match look H j with
          | some (.row T' _ ys) => if h : T' = T then (match decide ((xs.length + ys.length) * T.bytes ≤ 140737488355328) with
            | true => some ⟨.own i, [(i, some (.row T e (xs ++ h ▸ ys)))], [i], [i, j]⟩
            | false => none) else none
          | _ => none
        | true, .nils => some { p := .own i, fp := [i] }
        | _, _ => none
      | _, _ => none
    | _, _ => none
  | .append, [.nsl e T, src] => match tys with
    | [t, t'] => match Nat.beq t t', C.tab t with
      | true, some ⟨_, _, .slice e'⟩ => match Nat.beq e e', C.ety e with
        | true, some T0 => if h0 : T0 = T then (match src with
          | .sl T' ys => if h : T' = T then (match decide (ys.length * T.bytes ≤ 140737488355328) with
            | true => made H (lid dst) (.row T e (h ▸ ys)) (.own (lid dst))
            | false => none) else none
          | _ => none) else none
        | _, _ => none
      | _, _ => none
    | _ => none
  | _, _ => none

/-- Is an element's type as large as its kind? -/
def szOk (C : Cx) (e : TypeId) (T : ETy) : Bool := match C.tab e with
  | some f => Nat.beq f.size T.size
  | none => false
def eff (C : Cx) (T : List PV) (H : Heap) (c : Chain) (o : Oper) : Option Eff :=
  let r := opd C.gl T c
  match o.op with
  | .move x => some { p := typed C o.type (r x) }
  | .assign x => match r x, has C.ows (lid o.dst), c with
    | .nils, true, [] => match C.tab o.type with
      | some ⟨_, _, .slice e⟩ => match C.ety e with
        | some T => made H (lid o.dst) (.row T e []) (.own (lid o.dst))
        | none => none
      | _ => none
    | p, _, _ => some { p := typed C o.type p }
  | .alloc t => match C.tab t, c with
    | some ti, [] => match has C.ows (lid o.dst) with
      | true => made H (lid o.dst) (.cells t (ti.zp.map PV.soft)) (.ref (lid o.dst) 0)
      | false => made H (lid o.dst) (.cells t ti.zp) (.ref (lid o.dst) 0)
    | _, _ => none
  | .box t x => match (r x).flat.all PV.one with
    | false => none
    | true => match has C.bxs (lid o.dst), c, stale H (lid o.dst) with
      | true, [], [] => made H (lid o.dst) (.cells t (r x).flat) (.ref (lid o.dst) 0)
      | true, _, _ => none
      | false, _, _ => some { p := .ptr (r x).flat 0 }
  | .build t parts => match C.tab t with
    | some ti => match ti.k with
      | .struct fs => match fills C (fun i => match fs[i]? with | some (off, ft) => (match C.tab ft with | some f => some (off, f.size) | none => none) | none => none) (parts.toList.map fun (i, x) => (i, r x)) ti.zp with
        | some cs => some { p := .agg cs }
        | none => none
      | .arr _ e => match C.tab e with
        | some f => match fills C (fun i => some (i * f.size, f.size)) (parts.toList.map fun (i, x) => (i, r x)) ti.zp with
          | some cs => some { p := .agg cs }
          | none => none
        | none => none
      | _ => none
    | none => none
  | .buildSlice t len parts => match C.tab t with
    | some ⟨_, _, .slice e⟩ => match C.tab e, C.ety e with
      | some f, some T => match fills C (fun i => some (i * f.size, f.size)) (parts.toList.map fun (i, x) => (i, r x)) (rep len f.zp) with
        | some cs => match (match Nat.ble (len * f.size) 16777216 && Nat.beq f.size T.size with | true => decAll T len cs | false => none) with
          | some xs => match has C.ows (lid o.dst), c with
            | true, [] => made H (lid o.dst) (.row T e xs) (.own (lid o.dst))
            | true, _ => none
            | false, _ => some { p := .sl T xs }
          | none => none
        | none => none
      | _, _ => none
    | _ => none
  | .load t a => match C.tab t with
    | some ti => match r a with
      | .ptr cs off => match part ti cs off with
        | some p => some { p }
        | none => none
      | .ref i off => match look H i with
        | some (.cells _ cs) => match part ti cs off with
          | some p => some { p, fp := [i] }
          | none => none
        | _ => none
      | .eref i T ix off => match look H i with
        | some (.row T' _ xs) => if h : T = T' then (match xs[ix]? with
          | some x => match part ti (T'.cells x) off with
            | some p => some { p, fp := [i] }
            | none => none
          | none => none) else none
        | _ => none
      | _ => none
    | none => none
  | .store t a x => match c, (match C.tab t with | some ti => Nat.beq (typed C t (r x)).flat.length ti.size | none => false) with
    | _ :: _, _ => none
    | [], false => none
    | [], true => match r a with
      | .ref i off => match look H i with
        | some (.cells t' cs) => match put cs off (typed C t (r x)).flat with
          | some cs' => some ⟨.junk, [(i, some (.cells t' cs'))], [], [i]⟩
          | none => none
        | _ => none
      | .eref i T ix off => match look H i with
        | some (.row T' e xs) => if h : T = T' then (match xs[ix]? with
          | some y => match put (T'.cells y) off (typed C t (r x)).flat with
            | some cs => match T'.dec cs with
              | some z => some ⟨.junk, [(i, some (.row T' e (xs.set ix z)))], [], [i]⟩
              | none => none
            | none => none
          | none => none) else none
        | _ => none
      | _ => none
  | .nilCheck x => match r x with
    | .ptr cs off => some { p := .ptr cs off }
    | .ref i off => some { p := .ref i off }
    | .eref i T ix off => some { p := .eref i T ix off }
    | .fn (.method n) [.iface t q] cs => match C.meth t n with
      | some _ => some { p := .fn (.method n) [.iface t q] cs }
      | none => none
    | _ => none
  | .binOp op t x y _ => match binop C op t (r x) (r y) with
    | some p => some { p }
    | none => none
  | .unOp op _ x => match op, r x with
    | .not, .b v => some { p := .b (!v) }
    | .neg, .i k v => some { p := .i k (k.wrap (0 - v)) }
    | _, _ => none
  | .convert u t x => match C.tab u, C.tab t, r x with
    | some _, some ⟨_, _, .int k⟩, .i _ v => some { p := .i k (k.wrap v) }
    | some _, some ⟨_, _, .slice e⟩, .s v => match C.tab e, C.ety e with
      | some ⟨_, _, .int .u8⟩, some .u8 => some { p := .sl .u8 (bytesOf v) }
      | _, _ => none
    | _, _, _ => none
  | .makeInterface t x => match C.tab t with
    | some ⟨_, _, .iface⟩ => none
    | some _ => some { p := .iface t (r x) }
    | none => none
  | .makeFunc f a cs => some { p := .fn f (a.toList.map r) (cs.toList.map r) }
  | .slice t x (some lo) none none => match C.tab t, r x, r lo with
    | some ⟨_, _, .slice e⟩, .sl T xs, .i _ n => match szOk C e T with
      | true => match decide (0 ≤ n ∧ n ≤ (xs.length : Int)) with
        | true => some { p := .sl T (xs.drop n.toNat) }
        | false => none
      | false => none
    | _, _, _ => none
  | .fieldAddr t x f => match C.tab t with
    | some ⟨_, _, .struct fs⟩ => match fs[f]? with
      | some (fo, ft) => match C.tab ft with
        | some fi => match fi.size with
          | 0 => none
          | _ + 1 => match r x with
            | .ptr cs off => some { p := .ptr cs (off + fo) }
            | .ref i off => some { p := .ref i (off + fo) }
            | .eref i T ix off => some { p := .eref i T ix (off + fo) }
            | _ => none
        | none => none
      | none => none
    | _ => none
  | .field t x f => match C.tab t, r x with
    | some ⟨_, _, .struct fs⟩, .agg cs => match fs[f]? with
      | some (fo, ft) => match C.tab ft with
        | some fi => match part fi cs fo with
          | some p => some { p }
          | none => none
        | none => none
      | none => none
    | _, _ => none
  | .indexAddr t x i => match C.tab t, r i with
    | some ⟨_, _, .slice e⟩, .i _ n => match r x with
      | .sl T xs => match szOk C e T with
        | true => match ixl xs n with
          | some y => some { p := .ptr (T.cells y) 0 }
          | none => none
        | false => none
      | .own j => match look H j with
        | some (.row T _ xs) => match szOk C e T with
          | true => match ixl xs n with
            | some _ => some { p := .eref j T n.toNat 0, fp := [j] }
            | none => none
          | false => none
        | _ => none
      | _ => none
    | some ⟨_, _, .arr len e⟩, .i _ n => match C.tab e with
      | some f => if 0 ≤ n ∧ n < (len : Int) then (match r x with
        | .ptr cs off => some { p := .ptr cs (off + n.toNat * f.size) }
        | .ref j off => some { p := .ref j (off + n.toNat * f.size) }
        | _ => none) else none
      | none => none
    | _, _ => none
  | .index t x i => match C.tab t, r x, r i with
    | some ⟨_, _, .arr len e⟩, .agg cs, .i _ n => match C.tab e with
      | some f => if 0 ≤ n ∧ n < (len : Int) then (match part f cs (n.toNat * f.size) with
        | some p => some { p }
        | none => none) else none
      | none => none
    | some ⟨_, _, .str⟩, .s s, .i _ n => match ixs s n with
      | some b => some { p := .i .u8 b.toNat }
      | none => none
    | _, _, _ => none
  | .typeAssert x _ t true => match C.tab t, r x with
    | some ti, .iface u v => match ti.k with
      | .iface => none
      | _ => match Nat.beq u t with
        | true => some { p := .tup [v, .b true] }
        | false => match part ti ti.zp 0 with
          | some z => some { p := .tup [z, .b false] }
          | none => none
    | _, _ => none
  | .extract x n => match r x with
    | .tup ps => match ps[n]? with
      | some p => some { p }
      | none => none
    | _ => none
  | .call { callee := .builtin b, args := as, argTypes := ts } => match c, b with
    | _ :: _, .append => none
    | _, _ => callB C H o.dst b ts.toList (as.toList.map r)
  | _ => none

/-! The same, looked up whole: a condition, and what is done where it holds. -/
def ETy.dflt : (T : ETy) → T.den
  | .int => (0 : Int)
  | .u8 => (0 : Int)
  | .bool => false
  | .spot => ⟨0, 0⟩
  | .leg => ⟨⟨0, 0⟩, ⟨0, 0⟩, 0, 0, 0, 0⟩
  | .box => ⟨⟨0, 0⟩, ⟨0, 0⟩, 0, 0, 0⟩
  | .front => ⟨0, 0, ⟨0, 0⟩, ⟨0, 0⟩, 0, 0⟩
  | .way => ⟨⟨0, 0⟩, 0⟩
  | .unit => ⟨⟨#[]⟩, 0, 0, 0, 0, 0, 0, 0, ⟨0, 0⟩, 0, 0⟩
  | .arr3 => ⟨0, 0, 0⟩
  | .report => ⟨0, 0, ⟨#[]⟩, ⟨#[]⟩, [], 0, 0⟩
  | .proof => ⟨0, 0, 0, ⟨#[]⟩, [], 0⟩
  | .act => ⟨0, 0, 0, ⟨0, 0, ⟨#[]⟩, ⟨#[]⟩, [], 0, 0⟩, ⟨0, 0, 0, ⟨#[]⟩, [], 0⟩⟩
  | .entry => ⟨⟨0, 0, ⟨#[]⟩, ⟨#[]⟩, [], 0, 0⟩, 0⟩
  | .proved => ⟨0, 0, .exercise⟩
def atN (T : ETy) (xs : List T.den) (n : Nat) : T.den := xs.getD n T.dflt
def atD (T : ETy) (xs : List T.den) (n : Int) : T.den := atN T xs n.toNat
def byteAt (s : ByteArray) (n : Int) : Int := match s[n.toNat]? with
  | some b => (b.toNat : Int)
  | none => 0
def inB (n : Int) (len : Nat) : Bool := decide (0 ≤ n) && decide (n < (len : Int))
def inN (n len : Nat) : Bool := Nat.ble (n + 1) len
def sure : Option Eff → Option (Bool × Eff)
  | some e => some (true, e)
  | none => none

def killP (i : Nat) (p : PV) : PV := match has p.ids i with
  | true => .junk
  | false => p
def killB (i : Nat) : Option Blk → Option Blk
  | some (.cells t ps) => some (.cells t (ps.map (killP i)))
  | b => b
/-! Calls that are handed objects: these, and what they lead to, are laid into the first places of a memory of their own. -/
def isRoot : PV → Bool
  | .ref _ _ => true
  | .own _ => true
  | _ => false
def newIds : List Nat → List Nat → List Nat
  | _, [] => []
  | acc, i :: is => match has acc i with
    | true => newIds acc is
    | false => i :: newIds (i :: acc) is
def blkPs : Option Blk → List PV
  | some (.cells _ ps) => ps
  | _ => []
def reach : Nat → Heap → List Nat → List PV → List Nat
  | 0, _, acc, _ => acc
  | n + 1, H, acc, ps => match newIds acc (PV.ids.idsL ps) with
    | [] => acc
    | i :: is => reach n H (acc ++ i :: is) ((i :: is).flatMap fun i => blkPs (look H i))
def pos : List Nat → Nat → Option Nat
  | [], _ => none
  | a :: l, i => match Nat.beq a i with
    | true => some 0
    | false => match pos l i with
      | some k => some (k + 1)
      | none => none
def PV.ren (f : Nat → Option Nat) : PV → PV
  | .own j => match f j with
    | some k => .own k
    | none => .junk
  | .ref j off => match f j with
    | some k => .ref k off
    | none => .junk
  | .eref j T ix off => match f j with
    | some k => .eref k T ix off
    | none => .junk
  | .yld j => match f j with
    | some k => .yld k
    | none => .junk
  | .ptr cs off => .ptr (renL cs) off
  | .fn g a c => .fn g (renL a) (renL c)
  | .agg xs => match (renL xs).all PV.one with
    | true => .agg (renL xs)
    | false => .junk
  | .tup xs => .tup (renL xs)
  | .iface t v => .iface t (v.ren f)
  | .gd _ _ => .junk
  | p => p
where
  renL : List PV → List PV
    | [] => []
    | p :: ps => p.ren f :: renL ps
def renB (f : Nat → Option Nat) : Option Blk → Option Blk
  | some (.cells t ps) => some (.cells t (PV.ren.renL f ps))
  | b => b
/-- Nothing in it leads to memory that is only read. -/
def PV.noSl : PV → Bool
  | .sl _ _ => false
  | .slz _ _ => false
  | .ptr _ _ => false
  | .fn _ a c => noSlL a && noSlL c
  | .agg xs => noSlL xs
  | .tup xs => noSlL xs
  | .iface _ v => v.noSl
  | .gd _ _ => false
  | _ => true
where
  noSlL : List PV → Bool
    | [] => true
    | p :: ps => p.noSl && noSlL ps
def ETy.flat : ETy → Bool
  | .report => false
  | .proof => false
  | .act => false
  | .entry => false
  | .proved => false
  | _ => true
def noSlB : Option Blk → Bool
  | some (.cells _ ps) => PV.noSl.noSlL ps
  | some (.row T _ _) => T.flat
  | _ => true
def isRow : Option Blk → Bool
  | some (.row _ _ _) => true
  | _ => false
def frees (H : Heap) : List Nat := ((List.range H.length).filter fun i => Nat.ble 8 i && (look H i).isNone).reverse
/-- Where in the caller's memory the places lie. -/
def places (H : Heap) (dst : Option Nat) (m : List Nat) : List Nat := m ++ (lid dst :: (frees H).filter fun i => !(Nat.beq i (lid dst)))
def backs (bm : List Nat) (os : Heap) : List (Nat × Option Blk) := (List.range 8).filterMap fun p => match look os p, bm[p]? with
  | some b, some i => some (i, renB (fun q => bm[q]?) (some b))
  | _, _ => none
def isAt (x : Option Nat) (p : Nat) : Bool := match x with
  | some q => Nat.beq q p
  | none => false
def okPlaces (H : Heap) (bm : List Nat) (n : Nat) (os : Heap) : Bool := (List.range 8).all fun p => match look os p with
  | none => Nat.ble n p
  | some _ => match bm[p]? with
    | some i => isAt (pos bm i) p && (Nat.ble (p + 1) n || (Nat.ble 8 i && Nat.ble (i + 1) H.length && (look H i).isNone))
    | none => false
def okIds (H : Heap) (m : List Nat) : Bool := Nat.ble m.length 8 && (List.range m.length).all fun k => match m[k]? with
  | some i => isAt (pos m i) k && (look H i).isSome
  | none => false
def osOf (H : Heap) (m : List Nat) : Heap := m.map (fun j => renB (pos m) (look H j)) ++ List.replicate (8 - m.length) none
def callM (H : Heap) (dst : Option Nat) (F : ObjF) (m kl : List Nat) (hu : List (Nat × Option Blk)) (bor : Bool) (ps : List PV) : Option (Bool × Eff) :=
  match F ps (osOf H m) with
  | some (cd, r, os) => match Nat.ble os.length 8 && okIds H m && okPlaces H (places H dst m) m.length os && (!bor || (r.noSl && os.all noSlB)) with
    | true => some (cd, { p := r.ren fun q => (places H dst m)[q]?, hu := hu ++ backs (places H dst m) os, kl := kl ++ m.filter (fun i => isRow (look H i)), fp := List.range H.length })
    | false => none
  | none => none
/-- Slices of one's own that are handed on for good. -/
def ownsIn : List PV → List Nat
  | [] => []
  | .own i :: ps => i :: ownsIn ps
  | _ :: ps => ownsIn ps
def ownsOf : List PV → List Nat
  | [] => []
  | .own i :: ps => newIds [] (i :: ownsOf ps)
  | .agg xs :: ps => newIds [] (ownsIn xs ++ ownsOf ps)
  | _ :: ps => ownsOf ps
def freeze1 (H : Heap) : PV → PV
  | .own i => match look H i with
    | some (.row T _ xs) => .sl T xs
    | _ => .junk
  | p => p.soft
def freeze (H : Heap) : PV → PV
  | .own i => match look H i with
    | some (.row T _ xs) => .sl T xs
    | _ => .junk
  | .agg xs => match (xs.map (freeze1 H)).all PV.one with
    | true => .agg (xs.map (freeze1 H))
    | false => .junk
  | p => p
def mask (is : List Nat) (H : Heap) : Heap := is.foldl (fun H i => H.set i none) H
def dropH (is : List Nat) (H : Heap) : Heap := is.foldl (fun H i => (H.map (killB i)).set i none) H
/-- A place that stays the same place. -/
def fixedAt (ms : List Nat) (x : Nat × Nat) : Bool := match ms[x.2]? with
  | some j => Nat.beq j x.2
  | none => false
/-- How objects are handed on: 0: all that the arguments lead to, and slices of one's own for good; 1: those that are arguments themselves; 2: none (they are only read). -/
def callO (H : Heap) (dst : Option Nat) (mode : Nat) (F : ObjF) (ps : List PV) : Option (Bool × Eff) := match mode with
  | 0 => callM (dropH (ownsOf ps) H) dst F (reach 6 (dropH (ownsOf ps) H) [] ((ps.map (freeze H)).map (fun p => (ownsOf ps).foldl (fun p i => killP i p) p))) (ownsOf ps) ((ownsOf ps).map fun i => (i, none)) false
      (((ps.map (freeze H)).map (fun p => (ownsOf ps).foldl (fun p i => killP i p) p)).map fun p => p.ren (pos (reach 6 (dropH (ownsOf ps) H) [] ((ps.map (freeze H)).map (fun p => (ownsOf ps).foldl (fun p i => killP i p) p)))))
  | 1 => callM H dst F (reach 6 H [] (ps.filter isRoot)) [] [] (ps.any fun p => !(p.ids.all (has (reach 6 H [] (ps.filter isRoot)))))
      (ps.map fun p => match p.ids.all (has (reach 6 H [] (ps.filter isRoot))) with
        | true => p.ren (pos (reach 6 H [] (ps.filter isRoot)))
        | false => borrow 8 (mask (reach 6 H [] (ps.filter isRoot)) H) p)
  | _ => callM H dst F [] [] [] (ps.any fun p => !(p.ids.isEmpty)) (ps.map (borrow 8 H))
/-- A call that is under a guard: the slice that it makes is never written. -/
def callG (H : Heap) (dst : Option Nat) (F : ObjF) (ps : List PV) : Option (Bool × Eff) := match callO H dst 2 F ps with
  | some (cd, ⟨.own i, [(j, some (.row T _ xs))], [], fp⟩) => match Nat.beq i j && (look H i).isNone with
    | true => some (cd, { p := .sl T xs, fp := fp })
    | false => none
  | _ => none
def callT (C : Cx) (H : Heap) (c : Chain) (dst : Option Nat) (g : FuncId) (ps : List PV) : Option (Bool × Eff) := match C.O g with
  | some (mode, F) => match c with
    | [] => callO H dst mode F ps
    | _ :: _ => match mode with
      | 2 => callG H dst F ps
      | _ => none
  | none => match C.nob with
   | true => match H.all Option.isNone with
      | true => match C.G g ps with
        | some (cd, r) => some (cd, { p := r, fp := List.range H.length })
        | none => none
      | false => none
   | false => match PV.ids.idsL ps with
    | [] => match C.G g ps with
      | some (cd, r) => some (cd, { p := r })
      | none => none
    | _ :: _ => match C.G g (ps.map (borrow 8 H)) with
      | some (cd, r) => match r.scal with
        | true => some (cd, { p := r, fp := List.range H.length })
        | false => none
      | none => none
def effT (C : Cx) (T : List PV) (H : Heap) (c : Chain) (o : Oper) : Option (Bool × Eff) :=
  let r := opd C.gl T c
  match o.op with
  | .indexAddr t x i => match r x with
    | .sl T xs => match C.tab t, r i with
      | some ⟨_, _, .slice e⟩, .i _ n => match szOk C e T with
        | true => some (inB n xs.length, { p := .ptr (T.cells (atD T xs n)) 0 })
        | false => none
      | _, _ => none
    | .own j => match C.tab t, r i with
      | some ⟨_, _, .slice e⟩, .i _ n => match look H j with
        | some (.row T _ xs) => match szOk C e T with
          | true => some (inB n xs.length, { p := .eref j T n.toNat 0, fp := [j] })
          | false => none
        | _ => none
      | _, _ => none
    | _ => sure (eff C T H c o)
  | .index t x i => match r x with
    | .s s => match C.tab t, r i with
      | some ⟨_, _, .str⟩, .i _ n => some (inB n s.size, { p := .i .u8 (byteAt s n) })
      | _, _ => none
    | _ => sure (eff C T H c o)
  | .binOp op t x y _ => match op, r x, r y with
    | .quo, .i m a, .i m' b => match decide (m = m') with
      | true => some (!(b == 0), { p := .i m (m.wrap (a.tdiv b)) })
      | false => none
    | .rem, .i m a, .i m' b => match decide (m = m') with
      | true => some (!(b == 0), { p := .i m (a.tmod b) })
      | false => none
    | _, _, _ => sure (eff C T H c o)
  | .load t a => match r a with
    | .eref i T ix off => match C.tab t with
      | some ti => match look H i with
        | some (.row T' _ xs) => if T = T' then (match part ti (T'.cells (atN T' xs ix)) off with
          | some p => some (inN ix xs.length, { p, fp := [i] })
          | none => none) else none
        | _ => none
      | none => none
    | _ => sure (eff C T H c o)
  | .store t a x => match r a with
    | .eref i T ix off => match c, (match C.tab t with | some ti => Nat.beq (typed C t (r x)).flat.length ti.size | none => false) with
      | _ :: _, _ => none
      | [], false => none
      | [], true => match look H i with
        | some (.row T' e xs) => if T = T' then (match put (T'.cells (atN T' xs ix)) off (typed C t (r x)).flat with
          | some cs => match T'.dec cs with
            | some z => some (inN ix xs.length, ⟨.junk, [(i, some (.row T' e (xs.set ix z)))], [], [i]⟩)
            | none => none
          | none => none) else none
        | _ => none
    | _ => sure (eff C T H c o)
  | .slice t x (some lo) none none => match C.tab t, r x, r lo with
    | some ⟨_, _, .slice e⟩, .sl T xs, .i _ n => match szOk C e T with
      | true => some (decide (0 ≤ n) && decide (n ≤ (xs.length : Int)), { p := .sl T (xs.drop n.toNat) })
      | false => none
    | _, _, _ => none
  | .call { callee := .builtin .append, args := as, argTypes := ts } => match c with
    | _ :: _ => none
    | [] => match as.toList.map r, ts.toList with
      | [.own i, .sl T' ys], [t, t'] => match look H i, Nat.beq t t', C.tab t with
        | some (.row T e xs), true, some ⟨_, _, .slice e'⟩ => if h : T' = T then (match Nat.beq e e' with
          | true => some (decide ((xs.length + ys.length) * T.bytes ≤ 140737488355328), ⟨.own i, [(i, some (.row T e (xs ++ h ▸ ys)))], [i], [i]⟩)
          | false => none) else none
        | _, _, _ => none
      | [.own i, .slz T' ys], [t, t'] => match look H i, Nat.beq t t', C.tab t with
        | some (.row T e xs), true, some ⟨_, _, .slice e'⟩ => if h : T' = T then (match Nat.beq e e' with
          | true => some (decide ((xs.length + ys.length) * T.bytes ≤ 140737488355328), ⟨.own i, [(i, some (.row T e (xs ++ h ▸ ys)))], [i], [i]⟩)
          | false => none) else none
        | _, _, _ => none
      | _, _ => sure (eff C T H c o)
  | .call { callee := .value f, args := as, argTypes := ts } => match r f with
    | .fn (.func g) first caps => callT C H c o.dst g (first ++ typedL C ts.toList (as.toList.map r) ++ caps)
    | .yld j => match c, C.Y with
      | [], some F => match look H j with
        | some (.loop _) => match PV.ids.idsL (typedL C ts.toList (as.toList.map r)), Nat.ble 8 j, C.ties.all (fixedAt ((List.range 8).filter fun i => (look H i).isSome)) with
          | [], false, true => callM H o.dst F ((List.range 8).filter fun i => (look H i).isSome) [] [] false (typedL C ts.toList (as.toList.map r))
          | _, _, _ => none
        | _ => none
      | _, _ => none
    | _ => none
  | .call { callee := .invoke x m, args := as, argTypes := ts } => match r x with
    | .iface t v => match C.meth t m with
      | some g => callT C H c o.dst g (v :: typedL C ts.toList (as.toList.map r))
      | none => none
    | _ => none
  | _ => sure (eff C T H c o)

/-! ### 4. Regions -/
def killHs (is : List Nat) (H : Heap) : Heap := is.foldl (fun H i => H.map (killB i)) H
def setHs (us : List (Nat × Option Blk)) (H : Heap) : Heap := us.foldl (fun H x => H.set x.1 x.2) H
def killTs (is : List Nat) (T : List PV) : List PV := is.foldl (fun T i => T.map (killP i)) T
def St.apply (σ : St) (dst : Option Nat) (e : Eff) : St :=
  ⟨match dst with | some d => (killTs e.kl σ.T).set d e.p | none => killTs e.kl σ.T, setHs e.hu (killHs e.kl σ.H)⟩

/-- Either of two truth values, by a third one. -/
def pickP (c a b : PV) : Option (Bool × PV) := match c with
  | .b c => match a, b with
    | .b x, .b y => some (true, .b (bif c then x else y))
    | .junk, .b y => some (!c, .b y)
    | .b x, .junk => some (c, .b x)
    | _, _ => none
  | _ => none
/-- An operation under a chain of guards. -/
def effC (C : Cx) (T : List PV) (H : Heap) (c : Chain) (o : Oper) : Option (Bool × Eff) := match o.op with
  | .pick (.tmp ct) a b => match pickP (opd C.gl T c (.tmp ct)) (opd C.gl T (c ++ [(ct, true)]) a) (opd C.gl T (c ++ [(ct, false)]) b) with
    | some (cd, p) => some (cd, { p })
    | none => none
  | _ => effT C T H c o
def chainOf : PV → Chain
  | .gd ch _ => ch
  | _ => []
/-- What an operation comes to whose guard is not so: no chain that holds leads here. -/
def deadP : PV := .gd [(0, true), (0, false)] .junk
def offB (b x : Bool) : Bool := match b with
  | true => !x
  | false => x
/-- Is some link of the chain surely not so? -/
def dead (T : List PV) : Chain → Bool
  | [] => false
  | (t, b) :: r => match T.getD t .junk with
    | .b x => offB b x || dead T r
    | .gd _ (.b x) => offB b x || dead T r
    | _ => dead T r
def contra : Chain → Bool
  | (0, true) :: (0, false) :: _ => true
  | _ => false
def deadG (T : List PV) (ch : Chain) : Bool := match contra ch with
  | true => true
  | false => dead T ch
/-- An operation under its guard: it can't touch memory that is mutable; where it can't be reckoned, its guard must not be so. -/
def effG (C : Cx) (ops : Array Oper) (T : List PV) (H : Heap) (o : Oper) : Option (Bool × Eff) := match o.guard with
  | none => effC C T H [] o
  | some (j, want) => match (ops[j]?).bind (·.dst) with
    | some g => match effC C T H (chainOf (T.getD g .junk) ++ [(g, want)]) o with
      | some (cd, ⟨p, [], [], fp⟩) => some (cd || deadG T (chainOf (T.getD g .junk) ++ [(g, want)]), ⟨.gd (chainOf (T.getD g .junk) ++ [(g, want)]) p, [], [], fp⟩)
      | _ => some (deadG T (chainOf (T.getD g .junk) ++ [(g, want)]), { p := deadP, fp := List.range H.length })
    | none => none
def evOps {ρ : Type} (C : Cx) (ops : Array Oper) : List Oper → St → (St → Option ρ) → Option ρ
  | [], σ, k => k σ
  | o :: rest, σ, k => match effG C ops σ.T σ.H o with
    | some (cd, e) => match cd with
      | true => evOps C ops rest (σ.apply o.dst e) k
      | false => none
    | none => none

/-! Regions that draw their order: what is not ordered must lie apart. -/
/-- The temporaries at which an operation looks. -/
def rds (ops : Array Oper) (T : List PV) (o : Oper) : List Nat := o.looksAt ops ++ match o.guard with
  | none => []
  | some (j, _) => match (ops[j]?).bind (·.dst) with
    | some g => (chainOf (T.getD g .junk)).map (·.1)
    | none => []
/-- What is read: the mutable things that it leads to; none: some of it is unknown. -/
def isJunk : PV → Bool
  | .junk => true
  | _ => false
def rdPs (ops : Array Oper) (T : List PV) (H : Heap) (o : Oper) (e : Eff) : List PV := (rds ops T o).map (fun t => T.getD t .junk) ++ e.fp.flatMap fun j => blkPs (look H j)
def rdQ (ops : Array Oper) (T : List PV) (H : Heap) (o : Oper) (e : Eff) : Option (List Nat) := match (rdPs ops T H o e).any isJunk with
  | true => none
  | false => some (PV.ids.idsL (rdPs ops T H o e))
structure El where
  i : Nat
  d : Option Nat
  r : List Nat
  e : Eff
  q : Option (List Nat)
def hasO (l : List Nat) : Option Nat → Bool
  | none => false
  | some d => has l d
def sameO : Option Nat → Option Nat → Bool
  | some d, some e => Nat.beq d e
  | _, _ => false
def huOf (e : Eff) : Option Nat := match e.hu with
  | [(i, _)] => some i
  | _ => none
def small (e : Eff) : Bool := match e.hu, e.kl with
  | [], [] => true
  | [_], [] => true
  | _, _ => false
/-- One thing is written, and its elder copies die. -/
def kil (e : Eff) : Bool := match e.hu, e.kl with
  | [(i, _)], [j] => Nat.beq i j
  | _, _ => false
def huIds (e : Eff) : List Nat := e.hu.flatMap fun x => PV.ids.idsL (blkPs x.2)
/-- An operation has nothing to do with a thing. -/
def freeOf (x : Option Nat) (y : El) : Bool := match x, y.q with
  | some i, some l => !(has l i || has y.e.p.ids i || has (huIds y.e) i)
  | _, _ => false
def disj (x y : El) : Bool := !(hasO y.r x.d || hasO x.r y.d || sameO x.d y.d || hasO y.e.fp (huOf x.e) || hasO x.e.fp (huOf y.e) || sameO (huOf x.e) (huOf y.e))
def indB (x y : El) : Bool := disj x y && match small x.e, small y.e with
  | true, true => true
  | false, true => kil x.e && freeOf (huOf x.e) y
  | true, false => kil y.e && freeOf (huOf y.e) x
  | false, false => false
def ordD (ops : Array Oper) : Nat → Nat → Nat → Bool
  | 0, _, _ => false
  | n + 1, j, i => match ops[i]? with
    | some o => o.after.any fun e => Region.binds .any e && (Nat.beq e.on j || ordD ops n j e.on)
    | none => false
def okAll (ops : Array Oper) (acc : List El) (y : El) : Bool := acc.all fun x => indB x y || ordD ops 5 x.i y.i
def evDraw {ρ : Type} (C : Cx) (ops : Array Oper) : List Oper → Nat → List El → St → (St → Option ρ) → Option ρ
  | [], _, _, σ, k => k σ
  | o :: l, i, acc, σ, k => match effG C ops σ.T σ.H o with
    | some (cd, e) => match okAll ops acc ⟨i, o.dst, rds ops σ.T o, e, rdQ ops σ.T σ.H o e⟩ with
      | true => match cd with
        | true => evDraw C ops l (i + 1) (⟨i, o.dst, rds ops σ.T o, e, rdQ ops σ.T σ.H o e⟩ :: acc) (σ.apply o.dst e) k
        | false => none
      | false => none
    | none => none
def unguard (T : List PV) : List PV := T.map fun
  | .gd _ _ => .junk
  | p => p

end Go.Proofs.Ytklgaodfakdjpaa.Ev
/- The interpreter of code, of loops, and of functions. -/
namespace Go.Proofs.Ytklgaodfakdjpaa.Ev
open Go

inductive Ex
  | normal
  | exit (id : Nat)
  | ret
/-- What a call comes to: its value, and the objects that it was handed (the first eight places of memory). -/
abbrev R := PV × Heap
/-- What is kept from round to round: places of temporaries, and of memory. -/
abbrev Keep := Nat → List Nat × List Nat
abbrev Lam := Code → List PV → Heap → (Ex → List PV → Heap → Option R) → Option R

def firstRegion : Code → Option Nat
  | .region id _ _ => some id
  | .seq a b => match firstRegion a with
    | some i => some i
    | none => firstRegion b
  | .cond _ a b => match firstRegion a with
    | some i => some i
    | none => firstRegion b
  | .block _ c => firstRegion c
  | .loop c => firstRegion c
  | .scope c => firstRegion c
  | _ => none
def loopId (c : Code) : Nat := (firstRegion c).getD 0

def setAll {α : Type} : List Nat → List α → List α → List α
  | i :: is, v :: vs, l => setAll is vs (l.set i v)
  | _, _, l => l
def mkT (n : Nat) (keep : List Nat) (vs : List PV) : List PV := setAll keep vs (List.replicate n .junk)
def mkH (n : Nat) (keep : List Nat) (hs : Heap) : Heap := setAll keep hs (List.replicate n none)
/-- What leads to nothing but what is kept. -/
def cleanP (keep : List Nat) (p : PV) : PV := match p.ids.all (has keep) with
  | true => p
  | false => .junk
def cleanB (keep : List Nat) : Option Blk → Option Blk
  | some (.cells t ps) => some (.cells t (ps.map (cleanP keep)))
  | b => b
def keptT (kp : List Nat × List Nat) (σ : St) : List PV := kp.1.map fun t => cleanP kp.2 (σ.T.getD t .junk)
def keptH (kp : List Nat × List Nat) (σ : St) : Heap := kp.2.map fun i => cleanB kp.2 (look σ.H i)

def ev (C : Cx) (K : Keep) (L : Lam) : Code → St → (Ex → St → Option R) → Option R
  | .skip, σ, k => k .normal σ
  | .label _, σ, k => k .normal σ
  | .region _ ops draw, σ, k => match draw with
    | false => evOps C ops ops.toList σ fun σ' => k .normal ⟨unguard σ'.T, σ'.H⟩
    | true => evDraw C ops ops.toList 0 [] σ fun σ' => k .normal ⟨unguard σ'.T, σ'.H⟩
  | .seq a b, σ, k => ev C K L a σ fun ex σ' => match ex with
    | .normal => ev C K L b σ' k
    | .exit i => k (.exit i) σ'
    | .ret => k .ret σ'
  | .cond c a b, σ, k => match opd C.gl σ.T [] c with
    | .b x => match x with
      | true => ev C K L a σ k
      | false => ev C K L b σ k
    | _ => none
  | .block id c, σ, k => ev C K L c σ fun ex σ' => match ex with
    | .exit i => match Nat.beq i id with
      | true => k .normal σ'
      | false => k (.exit i) σ'
    | .normal => k .normal σ'
    | .ret => k .ret σ'
  | .scope c, σ, k => ev C K L c σ k
  | .exit id, σ, k => k (.exit id) σ
  | .ret, σ, k => k .ret σ
  | .loop c, σ, k => L c (keptT (K (loopId c)) σ) (keptH (K (loopId c)) σ) fun ex vs hs => k ex ⟨mkT σ.T.length (K (loopId c)).1 vs, mkH σ.H.length (K (loopId c)).2 hs⟩
  | .rangeFunc g ps x y, σ, k => L (.rangeFunc g ps x y) σ.T σ.H fun ex vs hs => k ex ⟨vs, hs⟩
  | _, _, _ => none

/-- So many rounds of a loop. -/
def unroll (C : Cx) (K : Keep) (L : Lam) (n m : Nat) (c : Code) : Nat → List PV → Heap → (Ex → List PV → Heap → Option R) → Option R
  | 0, _, _, _ => none
  | j + 1, vs, hs, k => ev C K L c ⟨mkT n (K (loopId c)).1 vs, mkH m (K (loopId c)).2 hs⟩ fun ex σ => match ex with
    | .normal => unroll C K L n m c j (keptT (K (loopId c)) σ) (keptH (K (loopId c)) σ) k
    | .exit i => k (.exit i) (keptT (K (loopId c)) σ) (keptH (K (loopId c)) σ)
    | .ret => k .ret (keptT (K (loopId c)) σ) (keptH (K (loopId c)) σ)

/-- A function's results. -/
def resOf (C : Cx) (σ : St) : ResultVar → Option PV
  | .tmp t => some ((σ.T.getD t .junk).under [])
  | .cell a t => match C.tab t, (σ.T.getD a .junk).under [] with
    | some ti, .ref i off => match look σ.H i with
      | some (.cells _ cs) => part ti cs off
      | _ => none
    | some ti, .ptr cs off => part ti cs off
    | _, _ => none
def resL (C : Cx) (σ : St) : List ResultVar → Option (List PV)
  | [] => some []
  | x :: xs => match resOf C σ x with
    | some p => match resL C σ xs with
      | some ps => some (p :: ps)
      | none => none
    | none => none
def tupP : List PV → PV
  | [p] => p
  | ps => .tup ps
def resAll (C : Cx) (fn : Func) (σ : St) : Option PV := match resL C σ fn.results.toList with
  | some ps => some (tupP (typedL C fn.resultTypes.toList (ps.map (borrow 8 σ.H))))
  | none => none
def kFn (C : Cx) (fn : Func) (ex : Ex) (σ : St) : Option R := match ex with
  | .exit _ => none
  | .normal => match resAll C fn σ with
    | some p => some (p, [])
    | none => none
  | .ret => match resAll C fn σ with
    | some p => some (p, [])
    | none => none
def memOf (n : Nat) (os : Heap) : Heap := os ++ List.replicate (n + 8) none
def evFn (C : Cx) (K : Keep) (L : Lam) (fn : Func) (args : List PV) (os : Heap) : Option R := match fn.body with
  | some c => ev C K L c ⟨args ++ List.replicate (fn.ntmps - args.length) .junk, memOf fn.ntmps os⟩ (kFn C fn)
  | none => none
def noObjs : Heap := [none, none, none, none, none, none, none, none]
/-- A function that is handed no objects. -/
def evF (C : Cx) (K : Keep) (L : Lam) (fn : Func) (args : List PV) : Option PV := match evFn C K L fn args noObjs with
  | some r => some r.1
  | none => none

/-! A function that is handed objects, or that makes some. -/
/-- Nil becomes an empty slice of one's own. -/
def absL (C : Cx) (n : Nat) : List PV → Option (List PV × List (Option Blk))
  | [] => some ([], [])
  | .nsl e T :: ps => match C.ety e with
    | some T' => match decide (T' = T) with
      | true => match absL C (n + 1) ps with
        | some (qs, bs) => some (.own n :: qs, some (.row T e []) :: bs)
        | none => none
      | false => none
    | none => none
  | p :: ps => match absL C n ps with
    | some (qs, bs) => some (p.soft :: qs, bs)
    | none => none
def absB (C : Cx) (n : Nat) : List (Option Blk) → Option (List (Option Blk) × List (Option Blk))
  | [] => some ([], [])
  | some (.cells t ps) :: os => match absL C n ps with
    | some (qs, bs) => match absB C (n + bs.length) os with
      | some (os', bs') => some (some (.cells t qs) :: os', bs ++ bs')
      | none => none
    | none => none
  | b :: os => match absB C n os with
    | some (os', bs') => some (b :: os', bs')
    | none => none
def typedR (C : Cx) : List TypeId → List PV → List PV
  | t :: ts, p :: ps => typed C t p :: typedR C ts ps
  | _, ps => ps
def packIds (σ : St) (n0 : Nat) (rs : List PV) : List Nat := reach 6 σ.H (List.range n0) (rs ++ (List.range n0).flatMap fun i => blkPs (look σ.H i))
def packTo (rs : List PV) (os bs cs : List (Option Blk)) : Option R := match Nat.ble (os ++ bs ++ cs).length 8 with
  | true => some (tupP rs, os ++ bs ++ cs ++ List.replicate (8 - (os ++ bs ++ cs).length) none)
  | false => none
def okPre (n0 : Nat) (m : List Nat) : Bool := (List.range n0).all fun i => isAt (pos m i) i
def packR (C : Cx) (n0 : Nat) (rs : List PV) (σ : St) : Option R := match okIds σ.H (packIds σ n0 rs) && okPre n0 (packIds σ n0 rs) with
  | true => match absL C (packIds σ n0 rs).length (rs.map (PV.ren (pos (packIds σ n0 rs)))) with
    | some (qs, bs) => match absB C ((packIds σ n0 rs).length + bs.length) ((packIds σ n0 rs).map fun i => renB (pos (packIds σ n0 rs)) (look σ.H i)) with
      | some (os, cs) => packTo qs os bs cs
      | none => none
    | none => none
  | false => none
def pack (C : Cx) (n0 : Nat) (fn : Func) (σ : St) : Option R := match resL C σ fn.results.toList with
  | some rs => packR C n0 (typedR C fn.resultTypes.toList rs) σ
  | none => none
def kObj (C : Cx) (n0 : Nat) (fn : Func) (ex : Ex) (σ : St) : Option R := match ex with
  | .exit _ => none
  | .normal => pack C n0 fn σ
  | .ret => pack C n0 fn σ
/-- Are there so many objects? -/
def okN (n0 : Nat) (os : Heap) : Bool := Nat.beq os.length 8 && (List.range 8).all fun i => Nat.ble (i + 1) n0 || (look os i).isNone
def evO (C : Cx) (K : Keep) (L : Lam) (n0 : Nat) (fn : Func) (args : List PV) (os : Heap) : Option R := match okN n0 os with
  | true => match fn.body with
    | some c => ev C K L c ⟨args ++ List.replicate (fn.ntmps - args.length) .junk, memOf fn.ntmps os⟩ (kObj C n0 fn)
    | none => none
  | false => none

/-- All loops of a code. -/
def loopsOf : Code → List Code
  | .seq a b => loopsOf a ++ loopsOf b
  | .cond _ a b => loopsOf a ++ loopsOf b
  | .block _ c => loopsOf c
  | .scope c => loopsOf c
  | .loop c => c :: loopsOf c
  | _ => []

def mkG : List (Nat × (List PV → Option (Bool × PV))) → Gam
  | [], _, _ => none
  | (f, F) :: r, g, a => match Nat.beq f g with
    | true => F a
    | false => mkG r g a
def noG : Gam := fun _ _ => none
def noO : FuncId → Option (Nat × ObjF) := fun _ => none
def mkO : List (Nat × Nat × ObjF) → FuncId → Option (Nat × ObjF)
  | [], _ => none
  | (f, m, F) :: r, g => match Nat.beq f g with
    | true => some (m, F)
    | false => mkO r g
def noL : Lam := fun _ _ _ _ => none
def noK : Keep := fun _ => ([], [])

end Go.Proofs.Ytklgaodfakdjpaa.Ev
/- What pure values stand for in memory, and what keeps that so. -/
set_option linter.unusedSimpArgs false
namespace Go.Proofs.Ytklgaodfakdjpaa.Ev
open Go Go.RowKit

/-! ### 1. A value stands for a pure one -/
inductive Rep (w : World) (ok : Nat → Prop) (γ : Nat → Option Value) : PV → Value → Prop
  | junk (v : Value) : Rep w ok γ .junk v
  | b (x : Bool) : Rep w ok γ (.b x) (.bool x)
  | i (k : IntKind) (x : Int) : Rep w ok γ (.i k x) (.int k x)
  | s (x : ByteArray) : Rep w ok γ (.s x) (.string x)
  | sl (T : ETy) (xs : List T.den) (A : Option Addr) (c : Nat) (f : Nat → Nat → Value) (hc : xs.length ≤ c) (hn : A = none → c = 0)
      (hA : xs ≠ [] → ∃ ad, A = some ad ∧ ok ad.block ∧ ∀ i j, i < xs.length → j < T.size → w.cell? (ad.add (i * T.size + j)) = some (f i j))
      (h1 : ∀ i j, i < xs.length → j < T.size → (f i j).oneCell' = true)
      (hf : ∀ i x j p, xs[i]? = some x → (T.cells x)[j]? = some p → Rep w ok γ p (f i j)) : Rep w ok γ (.sl T xs) (.slice A xs.length c)
  | slz (T : ETy) (xs : List T.den) (ad : Addr) (c : Nat) (h : Rep w ok γ (.sl T xs) (.slice (some ad) xs.length c)) : Rep w ok γ (.slz T xs) (.slice (some ad) xs.length c)
  | nsl (e : TypeId) (T : ETy) : Rep w ok γ (.nsl e T) (.slice none 0 0)
  | nils : Rep w ok γ .nils (.slice none 0 0)
  | yld (i β : Nat) (h : γ i = some (.pointer (some ⟨β, 0, none⟩))) : Rep w ok γ (.yld i) (.func (.yield β) #[] #[])
  | own (i : Nat) (v : Value) (h : γ i = some v) : Rep w ok γ (.own i) v
  | ref (i off β : Nat) (h : γ i = some (.pointer (some ⟨β, 0, none⟩))) : Rep w ok γ (.ref i off) (.pointer (some ⟨β, off, none⟩))
  | eref (i : Nat) (T : ETy) (ix off β n c : Nat) (h : γ i = some (.slice (some ⟨β, 0, none⟩) n c)) : Rep w ok γ (.eref i T ix off) (.pointer (some ⟨β, ix * T.size + off, none⟩))
  | ptr (cs : List PV) (off β base : Nat) (f : Nat → Value) (ho : ok β) (hc : ∀ j, j < cs.length → w.cell? ⟨β, base + j, none⟩ = some (f j))
      (hf : ∀ j p, cs[j]? = some p → Rep w ok γ p (f j)) : Rep w ok γ (.ptr cs off) (.pointer (some ⟨β, base + off, none⟩))
  | nilp : Rep w ok γ .nilp (.pointer none)
  | fn (f : Fn) (a c : List PV) (fs cs : List Value) (ha : fs.length = a.length) (hc : cs.length = c.length)
      (h1 : ∀ j p, a[j]? = some p → Rep w ok γ p (fs.getD j undef)) (h2 : ∀ j p, c[j]? = some p → Rep w ok γ p (cs.getD j undef)) : Rep w ok γ (.fn f a c) (.func f fs.toArray cs.toArray)
  | nilf : Rep w ok γ .nilf .nilFunc
  | agg (xs : List PV) (vs : List Value) (hl : vs.length = xs.length) (ho : xs.all PV.one = true) (h : ∀ j p, xs[j]? = some p → Rep w ok γ p (vs.getD j undef)) : Rep w ok γ (.agg xs) (.agg vs.toArray)
  | tup (xs : List PV) (vs : List Value) (hl : vs.length = xs.length) (h : ∀ j p, xs[j]? = some p → Rep w ok γ p (vs.getD j undef)) : Rep w ok γ (.tup xs) (.tuple vs.toArray)
  | iface (t : TypeId) (p : PV) (v : Value) (h : Rep w ok γ p v) : Rep w ok γ (.iface t p) (.iface t v)
  | nili : Rep w ok γ .nili .nilIface

/-- So many values stand for so many. -/
def RepL (w : World) (ok : Nat → Prop) (γ : Nat → Option Value) (ps : List PV) (vs : List Value) : Prop :=
  vs.length = ps.length ∧ ∀ j p, ps[j]? = some p → Rep w ok γ p (vs.getD j undef)

theorem mem_idsL {j : Nat} {p : PV} {cs : List PV} (hp : cs[j]? = some p) {i : Nat} (hi : i ∈ p.ids) : i ∈ PV.ids.idsL cs := by
  induction cs generalizing j with
  | nil => simp at hp
  | cons c cs ih =>
    cases j with
    | zero =>
      simp at hp
      subst hp
      simp [PV.ids.idsL, hi]
    | succ j =>
      simp at hp
      simp [PV.ids.idsL, ih hp]

theorem PrV.pv_ids (p : PrV) : p.pv.ids = [] := by cases p <;> rfl
theorem PrV.pv_one (p : PrV) : p.pv.one = true := by cases p <;> rfl
theorem cells_ids (T : ETy) (x : T.den) : PV.ids.idsL (T.cells x) = [] := by
  cases T <;> first | rfl | (show (x : Proved).proof.pv.ids ++ [] = []; rw [PrV.pv_ids]; rfl)
theorem cells_len (T : ETy) (x : T.den) : (T.cells x).length = T.size := by cases T <;> rfl
theorem cells_one (T : ETy) (x : T.den) : (T.cells x).all PV.one = true := by
  cases T <;> first | rfl | (show ((x : Proved).proof.pv.one && true) = true; rw [PrV.pv_one]; rfl)
theorem size_pos (T : ETy) : 0 < T.size := by cases T <;> decide
theorem bytes_pos (T : ETy) : 0 < T.bytes := by cases T <;> decide
theorem cells_id {T : ETy} {x : T.den} {j : Nat} {p : PV} (hp : (T.cells x)[j]? = some p) : p.ids = [] := by
  cases h : p.ids with
  | nil => rfl
  | cons i l =>
    have := mem_idsL hp (i := i) (by simp [h])
    rw [cells_ids] at this
    simp at this

theorem Rep.mono {w w' : World} {ok ok' : Nat → Prop} {γ γ' : Nat → Option Value} {p : PV} {v : Value} (h : Rep w ok γ p v)
    (hw : ∀ β, ok β → w'.heap[β]? = w.heap[β]?) (hok : ∀ β, ok β → ok' β) : (∀ i, i ∈ p.ids → γ' i = γ i) → Rep w' ok' γ' p v := by
  induction h with
  | junk v => exact fun _ => .junk v
  | b x => exact fun _ => .b x
  | i k x => exact fun _ => .i k x
  | s x => exact fun _ => .s x
  | sl T xs A c f hc hn hA h1 hf ih =>
    intro hγ
    refine .sl T xs A c f hc hn (fun hx => ?_) h1 (fun i x j p h1 h2 => ih i x j p h1 h2 (fun k hk => by rw [cells_id h2] at hk; simp at hk))
    obtain ⟨ad, ha, ho, hcell⟩ := hA hx
    refine ⟨ad, ha, hok _ ho, fun i j hi hj => ?_⟩
    rw [← hcell i j hi hj]
    exact World.cell?_of_block (hw _ (by have : (ad.add (i * T.size + j)).block = ad.block := by (unfold Addr.add; split <;> rfl)
                                         rw [this]; exact ho))
  | slz T xs ad c h ih => exact fun hγ => .slz T xs ad c (ih (fun i hi => by simp [PV.ids] at hi))
  | nsl e T => exact fun _ => .nsl e T
  | yld i β h => exact fun hγ => .yld i β (by rw [hγ i (by simp [PV.ids])]; exact h)
  | nils => exact fun _ => .nils
  | own i v h => exact fun hγ => .own i v (by rw [hγ i (by simp [PV.ids])]; exact h)
  | ref i off β h => exact fun hγ => .ref i off β (by rw [hγ i (by simp [PV.ids])]; exact h)
  | eref i T ix off β n c h => exact fun hγ => .eref i T ix off β n c (by rw [hγ i (by simp [PV.ids])]; exact h)
  | ptr cs off β base f ho hc hf ih =>
    exact fun hγ => .ptr cs off β base f (hok _ ho) (fun j hj => by rw [← hc j hj]; exact World.cell?_of_block (hw _ ho)) (fun j p hp => ih j p hp (fun i hi => hγ i (by
      simp only [PV.ids]
      exact mem_idsL hp hi)))
  | nilp => exact fun _ => .nilp
  | fn f a c fs cs ha hc h1 h2 ih1 ih2 =>
    exact fun hγ => .fn f a c fs cs ha hc (fun j p hp => ih1 j p hp (fun i hi => hγ i (by simp only [PV.ids, List.mem_append]; exact .inl (mem_idsL hp hi))))
      (fun j p hp => ih2 j p hp (fun i hi => hγ i (by simp only [PV.ids, List.mem_append]; exact .inr (mem_idsL hp hi))))
  | nilf => exact fun _ => .nilf
  | agg xs vs hl ho h ih => exact fun hγ => .agg xs vs hl ho (fun j p hp => ih j p hp (fun i hi => hγ i (by simp only [PV.ids]; exact mem_idsL hp hi)))
  | tup xs vs hl h ih => exact fun hγ => .tup xs vs hl (fun j p hp => ih j p hp (fun i hi => hγ i (by simp only [PV.ids]; exact mem_idsL hp hi)))
  | iface t p v h ih => exact fun hγ => .iface t p v (ih hγ)
  | nili => exact fun _ => .nili

section
variable {w : World} {ok : Nat → Prop} {γ : Nat → Option Value}
theorem Rep.oneCell {p : PV} {v : Value} (h : Rep w ok γ p v) (h1 : p.one = true) (hγ : ∀ i v, γ i = some v → v.oneCell' = true) : v.oneCell' = true := by
  cases h <;> first | rfl | (exact hγ _ _ (by assumption)) | (simp [PV.one] at h1)

theorem RepL.nil : RepL w ok γ [] [] := ⟨rfl, fun _ _ h => by simp at h⟩
theorem RepL.cons {p : PV} {v : Value} {ps : List PV} {vs : List Value} (h : Rep w ok γ p v) (hl : RepL w ok γ ps vs) : RepL w ok γ (p :: ps) (v :: vs) :=
  ⟨by simp [hl.1], fun j q hq => by
    cases j with
    | zero => simp at hq; subst hq; exact h
    | succ j => simp at hq; simpa using hl.2 j q hq⟩
theorem RepL.cons_inv {p : PV} {ps : List PV} {vs : List Value} (h : RepL w ok γ (p :: ps) vs) : ∃ v us, vs = v :: us ∧ Rep w ok γ p v ∧ RepL w ok γ ps us := by
  cases vs with
  | nil => have := h.1; simp at this
  | cons v us =>
    refine ⟨v, us, rfl, by simpa using h.2 0 p rfl, by have := h.1; simp at this; exact this, fun j q hq => by simpa using h.2 (j + 1) q (by simpa using hq)⟩
theorem RepL.nil_inv {vs : List Value} (h : RepL w ok γ [] vs) : vs = [] := List.eq_nil_of_length_eq_zero (by simpa using h.1)
theorem RepL.append {ps qs : List PV} {vs us : List Value} (h : RepL w ok γ ps vs) (k : RepL w ok γ qs us) : RepL w ok γ (ps ++ qs) (vs ++ us) := by
  refine ⟨by simp [h.1, k.1], fun j p hp => ?_⟩
  by_cases hj : j < ps.length
  · rw [List.getElem?_append_left hj] at hp
    have := h.2 j p hp
    simpa [List.getD, List.getElem?_append_left (show j < vs.length by rw [h.1]; exact hj)] using this
  · have hj' := Nat.le_of_not_lt hj
    rw [List.getElem?_append_right hj'] at hp
    have := k.2 _ p hp
    simpa [List.getD, List.getElem?_append_right (show vs.length ≤ j by rw [h.1]; exact hj'), h.1] using this
theorem RepL.take {ps : List PV} {vs : List Value} (h : RepL w ok γ ps vs) (n : Nat) : RepL w ok γ (ps.take n) (vs.take n) := by
  refine ⟨by simp [h.1], fun j p hp => ?_⟩
  have hj : j < n := by
    rcases Nat.lt_or_ge j n with h' | h'
    · exact h'
    · rw [List.getElem?_eq_none (by simp; omega)] at hp; simp at hp
  rw [List.getElem?_take_of_lt hj] at hp
  simpa [List.getD, List.getElem?_take_of_lt hj] using h.2 j p hp
theorem RepL.drop {ps : List PV} {vs : List Value} (h : RepL w ok γ ps vs) (n : Nat) : RepL w ok γ (ps.drop n) (vs.drop n) := by
  refine ⟨by simp [h.1], fun j p hp => ?_⟩
  rw [List.getElem?_drop] at hp
  simpa [List.getD, List.getElem?_drop] using h.2 _ p hp
theorem RepL.at {ps : List PV} {vs : List Value} (h : RepL w ok γ ps vs) {j : Nat} {p : PV} (hp : ps[j]? = some p) : ∃ v, vs[j]? = some v ∧ Rep w ok γ p v := by
  have hj : j < vs.length := by rw [h.1]; exact (List.getElem?_eq_some_iff.1 hp).1
  have := h.2 j p hp
  exact ⟨vs[j], by simp [hj], by simpa [List.getD, hj] using this⟩
theorem RepL.map {α : Type} {l : List α} {f : α → PV} {g : α → Value} (h : ∀ x ∈ l, Rep w ok γ (f x) (g x)) : RepL w ok γ (l.map f) (l.map g) := by
  induction l with
  | nil => exact .nil
  | cons x l ih => exact .cons (h x (by simp)) (ih fun y hy => h y (by simp [hy]))

theorem Rep.agg' {xs : List PV} {vs : List Value} (ho : xs.all PV.one = true) (h : RepL w ok γ xs vs) : Rep w ok γ (.agg xs) (.agg vs.toArray) := .agg xs vs h.1 ho h.2
theorem Rep.tup' {xs : List PV} {vs : List Value} (h : RepL w ok γ xs vs) : Rep w ok γ (.tup xs) (.tuple vs.toArray) := .tup xs vs h.1 h.2
theorem Rep.agg_inv {xs : List PV} {v : Value} (h : Rep w ok γ (.agg xs) v) : ∃ vs : List Value, v = .agg vs.toArray ∧ RepL w ok γ xs vs ∧ xs.all PV.one = true := by
  cases h with
  | agg xs vs hl ho h => exact ⟨vs, rfl, ⟨hl, h⟩, ho⟩
theorem Rep.tup_inv {xs : List PV} {v : Value} (h : Rep w ok γ (.tup xs) v) : ∃ vs : List Value, v = .tuple vs.toArray ∧ RepL w ok γ xs vs := by
  cases h with
  | tup xs vs hl h => exact ⟨vs, rfl, hl, h⟩
/-- A value's cells stand for the pure one's. -/
theorem Rep.flat {p : PV} {v : Value} (h : Rep w ok γ p v) (h1 : p.flat.all PV.one = true) (hγ : ∀ i v, γ i = some v → v.oneCell' = true) : RepL w ok γ p.flat v.cells.toList ∧ ∀ u ∈ v.cells.toList, u.oneCell' = true := by
  have key : ∀ {ps : List PV} {vs : List Value}, RepL w ok γ ps vs → ps.all PV.one = true → ∀ u ∈ vs, u.oneCell' = true := by
    intro ps vs hr ho u hu
    obtain ⟨j, hj, rfl⟩ := List.getElem_of_mem hu
    have hjp : j < ps.length := by rw [← hr.1]; exact hj
    have := hr.2 j ps[j] (by simp [hjp])
    simp only [List.getD, List.getElem?_eq_getElem hj, Option.getD_some] at this
    exact this.oneCell (by simpa using List.all_eq_true.1 ho ps[j] (by simp)) hγ
  have one : ∀ {q : PV} {u : Value}, Rep w ok γ q u → [q].all PV.one = true → u.oneCell' = true → u.cells.toList = [u] := by
    intro q u _ _ hu
    cases u <;> first | rfl | (simp [Value.oneCell'] at hu)
  cases p with
  | agg xs =>
    obtain ⟨vs, rfl, hr, ho⟩ := h.agg_inv
    exact ⟨by simpa [PV.flat, Value.cells] using hr, by simpa [Value.cells] using key hr ho⟩
  | _ =>
    have hu : v.oneCell' = true := h.oneCell (by simpa [PV.flat] using h1) hγ
    rw [one h (by simpa [PV.flat] using h1) hu]
    exact ⟨.cons h .nil, by simpa using hu⟩
end

/-! ### 2. Memory -/
/-- The block to which a mutable thing's value leads. -/
def blk : Value → Option Nat
  | .pointer (some a) => some a.block
  | .slice (some a) _ _ => some a.block
  | _ => none
theorem blk_ownBlock {v : Value} {e : TypeId} {w : World} {s n : Nat} {ys : List Value} (h : w.ownsRow 0 e s v n ys) : blk v = v.ownBlock := by
  rcases h.2 with ⟨rfl, _⟩ | ⟨g, cap, cur, rfl, _⟩ <;> rfl

/-- What is fixed while a function runs: the program; the world in which it began; what of it the arguments may lead to; what it may write. -/
structure GI where
  P : Program
  w0 : World
  ok0 : Nat → Prop
  r0 : Nat → Prop
  gl : Nat → PV
  fx : Nat → Option Value
  lrec : Loop
def okOf (g : GI) (w : World) (γ : Nat → Option Value) (β : Nat) : Prop :=
  (g.ok0 β ∨ g.r0 β ∨ g.w0.heap.size ≤ β) ∧ β < w.heap.size ∧ ∀ i v, γ i = some v → blk v ≠ some β
/-- An element's type is what it is taken for. -/
def ElemOk (P : Program) (e : TypeId) (T : ETy) : Prop := ∃ i z, P.info? e = some i ∧ i.size = T.size ∧ i.bytes = T.bytes ∧ i.zero = some z ∧ z.cells.size = T.size
structure Fr (g : GI) (w : World) : Prop where
  os : w.os = g.w0.os
  tape : w.tape = g.w0.tape
  output : w.output = g.w0.output
  size : g.w0.heap.size ≤ w.heap.size
  block : ∀ k, k < g.w0.heap.size → ¬ g.r0 k → w.heap[k]? = g.w0.heap[k]?
def BlkOk (g : GI) (w : World) (γ : Nat → Option Value) (v : Value) : Blk → Prop
  | .cells t ps => ∃ β vs, v = .pointer (some ⟨β, 0, none⟩) ∧ w.heap[β]? = some (.cells (List.toArray vs) t (0, 0)) ∧ RepL w (okOf g w γ) γ ps vs ∧ ∀ u ∈ vs, u.oneCell' = true
  | .row T e xs => ∃ ys, w.ownsRow 0 e T.size v xs.length ys ∧ ElemOk g.P e T ∧
      (∀ k x j p, xs[k]? = some x → (T.cells x)[j]? = some p → Rep w (okOf g w γ) γ p (ys.getD (k * T.size + j) undef)) ∧ ∀ u ∈ ys, u.oneCell' = true
  | .loop b => ∃ β, v = .pointer (some ⟨β, 0, none⟩) ∧ w.heap[β]? = some (.loop { g.lrec with state := b.st, pending := b.pe })
structure MInv (g : GI) (H : Heap) (w : World) (γ : Nat → Option Value) : Prop where
  dom : ∀ i, look H i = none → γ i = none
  blks : ∀ i b, look H i = some b → ∃ v, γ i = some v ∧ BlkOk g w γ v b
  apart : ∀ i j v u β, γ i = some v → γ j = some u → blk v = some β → blk u = some β → i = j
  old : ∀ i v β, γ i = some v → blk v = some β → (g.r0 β ∨ g.w0.heap.size ≤ β) ∧ β < w.heap.size
  fr : Fr g w
  glob : ∀ n, g.gl n ≠ .junk → Rep w (okOf g w γ) (fun _ => none) (g.gl n) (.pointer (some ⟨n, 0, none⟩))
  fx : ∀ i v, g.fx i = some v → look H i = none ∨ (isRow (look H i) = false ∧ γ i = some v)
  fx8 : ∀ i, 8 ≤ i → g.fx i = none

theorem BlkOk.one {g : GI} {w : World} {γ : Nat → Option Value} {v : Value} {b : Blk} (h : BlkOk g w γ v b) : v.oneCell' = true := by
  cases b with
  | cells t ps => obtain ⟨β, vs, rfl, _⟩ := h; rfl
  | row T e xs =>
    obtain ⟨ys, h2, _⟩ := h
    rcases h2.2 with ⟨rfl, _⟩ | ⟨_, _, _, rfl, _⟩ <;> rfl
  | loop lb => obtain ⟨β, rfl, _⟩ := h; rfl
theorem BlkOk.lt {g : GI} {w : World} {γ : Nat → Option Value} {v : Value} {b : Blk} (h : BlkOk g w γ v b) {β : Nat} (hβ : blk v = some β) : β < w.heap.size := by
  cases b with
  | cells t ps =>
    obtain ⟨β', vs, rfl, h2, _⟩ := h
    simp [blk] at hβ
    subst hβ
    exact (Array.getElem?_eq_some_iff.1 h2).1
  | row T e xs =>
    obtain ⟨ys, h2, _⟩ := h
    exact (h2.lt β (by rw [← blk_ownBlock h2]; exact hβ)).2
  | loop lb =>
    obtain ⟨β', rfl, h2⟩ := h
    simp [blk] at hβ
    subst hβ
    exact (Array.getElem?_eq_some_iff.1 h2).1
theorem MInv.one {g : GI} {H : Heap} {w : World} {γ : Nat → Option Value} (m : MInv g H w γ) (i : Nat) (v : Value) (h : γ i = some v) : v.oneCell' = true := by
  cases hl : look H i with
  | none => rw [m.dom i hl] at h; simp at h
  | some b =>
    obtain ⟨u, hu, hb⟩ := m.blks i b hl
    rw [hu] at h
    simp at h
    subst h
    exact hb.one

def killb (i : Nat) : Blk → Blk
  | .cells t ps => .cells t (ps.map (killP i))
  | b => b
theorem killB_some (i : Nat) (b : Blk) : killB i (some b) = some (killb i b) := by cases b <;> rfl
theorem killB_none (i : Nat) : killB i none = none := rfl
theorem has_iff (l : List Nat) (n : Nat) : has l n = true ↔ n ∈ l := by
  unfold has
  rw [List.any_eq_true]
  constructor
  · rintro ⟨x, hx, he⟩
    have : n = x := Nat.eq_of_beq_eq_true he
    exact this ▸ hx
  · intro h
    exact ⟨n, h, Nat.beq_refl n⟩
theorem Rep.kill {w : World} {ok : Nat → Prop} {γ : Nat → Option Value} {i : Nat} {p : PV} {u : Value} (h : i ∉ p.ids → Rep w ok γ p u) : Rep w ok γ (killP i p) u := by
  unfold killP
  cases hh : has p.ids i with
  | true => exact .junk u
  | false => exact h (fun hm => by rw [(has_iff _ _).2 hm] at hh; simp at hh)
theorem RepL.kill {w : World} {ok : Nat → Prop} {γ : Nat → Option Value} {i : Nat} {ps : List PV} {us : List Value} (hl : us.length = ps.length) (h : ∀ j p, ps[j]? = some p → i ∉ p.ids → Rep w ok γ p (us.getD j undef)) : RepL w ok γ (ps.map (killP i)) us := by
  refine ⟨by simp [hl], fun j q hq => ?_⟩
  rw [List.getElem?_map, Option.map_eq_some_iff] at hq
  obtain ⟨p, hp, rfl⟩ := hq
  exact Rep.kill (h j p hp)

theorem BlkOk.tr {g : GI} {w w' : World} {γ γ' : Nat → Option Value} {v : Value} {b : Blk} (kl : Bool) (i : Nat) (h : BlkOk g w γ v b)
    (tr : ∀ p u, Rep w (okOf g w γ) γ p u → (kl = true → i ∉ p.ids) → Rep w' (okOf g w' γ') γ' p u) (hb : ∀ β, blk v = some β → w'.heap[β]? = w.heap[β]?) :
    BlkOk g w' γ' v (bif kl then killb i b else b) := by
  cases b with
  | cells t ps =>
    obtain ⟨β, vs, rfl, h2, h3, h4⟩ := h
    cases kl with
    | true => exact ⟨β, vs, rfl, by rw [hb β rfl]; exact h2, RepL.kill h3.1 fun j p hp hi => tr _ _ (h3.2 j p hp) (fun _ => hi), h4⟩
    | false => exact ⟨β, vs, rfl, by rw [hb β rfl]; exact h2, ⟨h3.1, fun j p hp => tr _ _ (h3.2 j p hp) (fun h => by simp at h)⟩, h4⟩
  | row T e xs =>
    have : (bif kl then killb i (.row T e xs) else .row T e xs) = .row T e xs := by cases kl <;> rfl
    rw [this]
    obtain ⟨ys, h2, h3, h4, h5⟩ := h
    refine ⟨ys, ⟨h2.1, ?_⟩, h3, fun k x j p hx hp => tr _ _ (h4 k x j p hx hp) (fun _ hm => by rw [cells_id hp] at hm; simp at hm), h5⟩
    rcases h2.2 with hn | ⟨gb, cap, cur, rfl, hbg, hgg, rest⟩
    · exact .inl hn
    · exact .inr ⟨gb, cap, cur, rfl, hbg, by rw [hb gb rfl]; exact hgg, rest⟩
  | loop lb =>
    obtain ⟨β, rfl, h2⟩ := h
    cases kl <;> exact ⟨β, rfl, by rw [hb β rfl]; exact h2⟩

/-- The world has grown: what was there is as it was. -/
theorem okOf.grow {g : GI} {w w' : World} {γ : Nat → Option Value} (hb : w.heap.size ≤ w'.heap.size) {β : Nat} (h : okOf g w γ β) : okOf g w' γ β := ⟨h.1, by have := h.2.1; omega, h.2.2⟩
theorem MInv.grow {g : GI} {H : Heap} {w w' : World} {γ : Nat → Option Value} (m : MInv g H w γ) (hb : Below w.heap.size w w') :
    MInv g H w' γ ∧ ∀ p u, Rep w (okOf g w γ) γ p u → Rep w' (okOf g w' γ) γ p u := by
  have tr : ∀ {δ : Nat → Option Value} p u, Rep w (okOf g w γ) δ p u → Rep w' (okOf g w' γ) δ p u := fun p u h => h.mono (fun β hβ => hb.block β hβ.2.1) (fun β hβ => hβ.grow hb.size) (fun _ _ => rfl)
  refine ⟨⟨m.dom, ?_, m.apart, ?_, ?_, fun n hn => tr _ _ (m.glob n hn), m.fx, m.fx8⟩, tr⟩
  · intro i b h
    obtain ⟨v, h1, h2⟩ := m.blks i b h
    refine ⟨v, h1, BlkOk.tr false 0 h2 (fun p u h _ => tr p u h) fun β hβ => hb.block β (h2.lt hβ)⟩
  · intro i v β h1 h2
    have := m.old i v β h1 h2
    exact ⟨this.1, by have := hb.size; omega⟩
  · exact ⟨hb.os.trans m.fr.os, hb.tape.trans m.fr.tape, hb.output.trans m.fr.output, Nat.le_trans m.fr.size hb.size, fun k hk hr => by
      rw [hb.block k (Nat.lt_of_lt_of_le hk m.fr.size)]; exact m.fr.block k hk hr⟩

theorem idsL_mem {i : Nat} {cs : List PV} (h : i ∈ PV.ids.idsL cs) : ∃ (j : Nat) (p : PV), cs[j]? = some p ∧ i ∈ p.ids := by
  induction cs with
  | nil => simp [PV.ids.idsL] at h
  | cons c cs ih =>
    simp only [PV.ids.idsL, List.mem_append] at h
    rcases h with h | h
    · exact ⟨0, c, rfl, h⟩
    · obtain ⟨j, p, hp, hi⟩ := ih h
      exact ⟨j + 1, p, by simpa using hp, hi⟩
/-- What a value leads to is there. -/
theorem Rep.live {w : World} {ok : Nat → Prop} {γ : Nat → Option Value} {p : PV} {v : Value} (h : Rep w ok γ p v) : ∀ i, i ∈ p.ids → γ i ≠ none := by
  induction h with
  | own i v h => intro k hk; simp [PV.ids] at hk; subst hk; rw [h]; simp
  | ref i off β h => intro k hk; simp [PV.ids] at hk; subst hk; rw [h]; simp
  | eref i T ix off β n c h => intro k hk; simp [PV.ids] at hk; subst hk; rw [h]; simp
  | yld i β h => intro k hk; simp [PV.ids] at hk; subst hk; rw [h]; simp
  | ptr cs off β base f ho hc hf ih =>
    intro k hk
    obtain ⟨j, p, hp, hi⟩ := idsL_mem (by simpa [PV.ids] using hk)
    exact ih j p hp k hi
  | fn f a c fs cs ha hc h1 h2 ih1 ih2 =>
    intro k hk
    simp only [PV.ids, List.mem_append] at hk
    rcases hk with hk | hk
    · obtain ⟨j, p, hp, hi⟩ := idsL_mem hk
      exact ih1 j p hp k hi
    · obtain ⟨j, p, hp, hi⟩ := idsL_mem hk
      exact ih2 j p hp k hi
  | agg xs vs hl ho h ih =>
    intro k hk
    obtain ⟨j, p, hp, hi⟩ := idsL_mem (by simpa [PV.ids] using hk)
    exact ih j p hp k hi
  | tup xs vs hl h ih =>
    intro k hk
    obtain ⟨j, p, hp, hi⟩ := idsL_mem (by simpa [PV.ids] using hk)
    exact ih j p hp k hi
  | iface t p v h ih => intro k hk; exact ih k (by simpa [PV.ids] using hk)
  | _ => intro k hk; simp [PV.ids] at hk

def upd (γ : Nat → Option Value) (i : Nat) (v : Value) (j : Nat) : Option Value := if j = i then some v else γ j
theorem upd_same (γ : Nat → Option Value) (i : Nat) (v : Value) : upd γ i v i = some v := by simp [upd]
theorem upd_ne (γ : Nat → Option Value) {i j : Nat} (v : Value) (h : j ≠ i) : upd γ i v j = γ j := by simp [upd, h]

/-- What a step leaves as it was: what is not mutable. -/
def Loc (w : World) (γ : Nat → Option Value) (w' : World) (γ' : Nat → Option Value) : Prop :=
  w.heap.size ≤ w'.heap.size ∧ (∀ k, k < w.heap.size → (∀ i v, γ i = some v → blk v ≠ some k) → w'.heap[k]? = w.heap[k]?) ∧ ∀ i v β, γ' i = some v → blk v = some β → (∃ j u, γ j = some u ∧ blk u = some β) ∨ w.heap.size ≤ β
theorem Loc.refl (w : World) (γ : Nat → Option Value) : Loc w γ w γ := ⟨Nat.le_refl _, fun _ _ _ => rfl, fun i v β h1 h2 => .inl ⟨i, v, h1, h2⟩⟩
theorem Loc.below {w w' : World} (h : Below w.heap.size w w') (γ : Nat → Option Value) : Loc w γ w' γ := ⟨h.size, fun k hk _ => h.block k hk, fun i v β h1 h2 => .inl ⟨i, v, h1, h2⟩⟩
/-- A mutable thing is made, or written, or moves. -/
theorem MInv.put {g : GI} {H : Heap} {w : World} {γ : Nat → Option Value} (m : MInv g H w γ) (i : Nat) (b' : Blk) (v' : Value) (w' : World) (H' : Heap) (kl : Bool)
    (hsz : w.heap.size ≤ w'.heap.size) (hos : w'.os = w.os) (htp : w'.tape = w.tape) (hout : w'.output = w.output)
    (hblk : ∀ k, k < w.heap.size → (∀ v, γ i = some v → blk v ≠ some k) → w'.heap[k]? = w.heap[k]?)
    (hv : ∀ β, blk v' = some β → (∃ v, γ i = some v ∧ blk v = some β) ∨ (w.heap.size ≤ β ∧ β < w'.heap.size))
    (hk : kl = true ∨ γ i = none ∨ γ i = some v')
    (hfx : ∀ v, g.fx i = some v → isRow (some b') = false ∧ v' = v)
    (hi : look H' i = some b') (hj : ∀ j, j ≠ i → look H' j = bif kl then killB i (look H j) else look H j)
    (hb : (∀ p u, Rep w (okOf g w γ) γ p u → (kl = true → i ∉ p.ids) → Rep w' (okOf g w' (upd γ i v')) (upd γ i v') p u) → BlkOk g w' (upd γ i v') v' b') :
    MInv g H' w' (upd γ i v') ∧ (∀ p u, Rep w (okOf g w γ) γ p u → (kl = true → i ∉ p.ids) → Rep w' (okOf g w' (upd γ i v')) (upd γ i v') p u) ∧ Loc w γ w' (upd γ i v') := by
  have okp : ∀ β, okOf g w γ β → okOf g w' (upd γ i v') β := by
    intro β ⟨h1, h2, h3⟩
    refine ⟨h1, by omega, fun j u hu hbu => ?_⟩
    by_cases hji : j = i
    · subst hji
      rw [upd_same] at hu
      simp at hu
      subst hu
      rcases hv β hbu with ⟨v, hv1, hv2⟩ | ⟨hv1, _⟩
      · exact h3 _ v hv1 hv2
      · omega
    · rw [upd_ne γ v' hji] at hu
      exact h3 j u hu hbu
  have okb : ∀ β, okOf g w γ β → w'.heap[β]? = w.heap[β]? := fun β h => hblk β h.2.1 (fun v hv => h.2.2 i v hv)
  have tr : ∀ p u, Rep w (okOf g w γ) γ p u → (kl = true → i ∉ p.ids) → Rep w' (okOf g w' (upd γ i v')) (upd γ i v') p u := by
    intro p u h hkp
    refine h.mono okb okp fun j hjm => ?_
    by_cases hji : j = i
    · subst hji
      rw [upd_same]
      rcases hk with hk | hk | hk
      · exact absurd hjm (hkp hk)
      · exact absurd hk (h.live j hjm)
      · exact hk.symm
    · exact upd_ne γ v' hji
  refine ⟨⟨?_, ?_, ?_, ?_, ?_, ?_, ?_, m.fx8⟩, tr, hsz, fun k hk hn => hblk k hk fun v hv' => hn i v hv', fun j v β h1 h2 => ?_⟩
  · intro j h
    by_cases hji : j = i
    · subst hji; rw [hi] at h; simp at h
    · rw [upd_ne γ v' hji]
      rw [hj j hji] at h
      refine m.dom j ?_
      cases hl : look H j with
      | none => rfl
      | some b => rw [hl] at h; cases kl <;> simp [killB_some] at h
  · intro j b h
    by_cases hji : j = i
    · subst hji
      rw [hi] at h
      simp at h
      subst h
      exact ⟨v', upd_same γ _ v', hb tr⟩
    · rw [hj j hji] at h
      rw [upd_ne γ v' hji]
      cases hl : look H j with
      | none => rw [hl] at h; cases kl <;> simp [killB_none] at h
      | some b0 =>
        obtain ⟨v, hv1, hv2⟩ := m.blks j b0 hl
        have hbb : b = bif kl then killb i b0 else b0 := by
          rw [hl] at h
          cases kl <;> simp [killB_some] at h <;> simp [h]
        subst hbb
        refine ⟨v, hv1, hv2.tr kl i tr fun β hβ => hblk β (hv2.lt hβ) fun u hu hbu => ?_⟩
        exact hji (m.apart j i v u β hv1 hu hβ hbu)
  · intro j k v u β h1 h2 h3 h4
    by_cases hji : j = i <;> by_cases hki : k = i
    · rw [hji, hki]
    · subst hji
      rw [upd_same] at h1
      rw [upd_ne γ v' hki] at h2
      simp at h1
      subst h1
      rcases hv β h3 with ⟨v0, hv1, hv2⟩ | ⟨hv1, _⟩
      · exact m.apart _ _ v0 u β hv1 h2 hv2 h4
      · have := (m.old k u β h2 h4).2; omega
    · subst hki
      rw [upd_same] at h2
      rw [upd_ne γ v' hji] at h1
      simp at h2
      subst h2
      rcases hv β h4 with ⟨v0, hv1, hv2⟩ | ⟨hv1, _⟩
      · exact m.apart _ _ v v0 β h1 hv1 h3 hv2
      · have := (m.old j v β h1 h3).2; omega
    · rw [upd_ne γ v' hji] at h1
      rw [upd_ne γ v' hki] at h2
      exact m.apart j k v u β h1 h2 h3 h4
  · intro j v β h1 h2
    by_cases hji : j = i
    · subst hji
      rw [upd_same] at h1
      simp at h1
      subst h1
      rcases hv β h2 with ⟨v0, hv1, hv2⟩ | ⟨hv1, hv2⟩
      · have := m.old _ v0 β hv1 hv2
        exact ⟨this.1, by omega⟩
      · exact ⟨.inr (by have := m.fr.size; omega), hv2⟩
    · rw [upd_ne γ v' hji] at h1
      have := m.old j v β h1 h2
      exact ⟨this.1, by omega⟩
  · refine ⟨hos.trans m.fr.os, htp.trans m.fr.tape, hout.trans m.fr.output, Nat.le_trans m.fr.size hsz, fun k hk hr => ?_⟩
    rw [hblk k (Nat.lt_of_lt_of_le hk m.fr.size) fun v hv hb => ?_]
    · exact m.fr.block k hk hr
    · rcases (m.old i v k hv hb).1 with h | h
      · exact hr h
      · omega
  · exact fun n hn => (m.glob n hn).mono okb okp (fun _ _ => rfl)
  · intro j v hfv
    by_cases hji : j = i
    · subst hji
      obtain ⟨h1, h2⟩ := hfx v hfv
      right
      rw [hi, upd_same, h2]
      exact ⟨h1, rfl⟩
    · rw [hj j hji, upd_ne γ v' hji]
      rcases m.fx j v hfv with h | ⟨h1, h2⟩
      · left; rw [h]; cases kl <;> rfl
      · right
        refine ⟨?_, h2⟩
        cases hl : look H j with
        | none => cases kl <;> rfl
        | some b => rw [hl] at h1; cases kl <;> cases b <;> first | rfl | (simp [isRow] at h1)
  · by_cases hji : j = i
    · subst hji
      rw [upd_same] at h1
      simp at h1
      subst h1
      rcases hv β h2 with ⟨v0, hv1, hv2⟩ | ⟨hv1, _⟩
      · exact .inl ⟨_, v0, hv1, hv2⟩
      · exact .inr hv1
    · rw [upd_ne γ v' hji] at h1
      exact .inl ⟨j, v, h1, h2⟩

end Go.Proofs.Ytklgaodfakdjpaa.Ev
