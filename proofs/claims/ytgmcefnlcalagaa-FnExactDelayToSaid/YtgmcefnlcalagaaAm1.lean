/- The abstract machine: typed trees, cells, abstract heap and the evaluator of Go code over them. Definitions only; no condition. -/
import Derived.Below
import Derived.LoopN
import Derived.Orders
import Derived.KernelRfl
namespace Go.Proofs.Ytgmcefnlcalagaa.AM
open Go

inductive Ty where
  | int (k : IntKind) | bool | str | unit | prod (a b : Ty) | slice (e : Ty)
  deriving DecidableEq

@[reducible] def Ty.T : Ty → Type
  | .int _ => Int
  | .bool => Bool
  | .str => ByteArray
  | .unit => Unit
  | .prod a b => a.T × b.T
  | .slice e => List e.T

def Ty.sz : Ty → Nat
  | .int _ => 1
  | .bool => 1
  | .str => 1
  | .unit => 0
  | .prod a b => a.sz + b.sz
  | .slice _ => 1

def Ty.zero : (τ : Ty) → τ.T
  | .int _ => (0 : Int)
  | .bool => false
  | .str => ByteArray.empty
  | .unit => ()
  | .prod a b => (a.zero, b.zero)
  | .slice _ => []

def Ty.isAgg : Ty → Bool
  | .prod _ _ => true
  | .unit => true
  | _ => false

inductive Cell where
  | int (k : IntKind) (n : Int)
  | bool (b : Bool)
  | str (s : ByteArray)
  | sl (e : Ty) (xs : List e.T)
  | emp (e : Ty)
  | own (r ver : Nat)
  | sub (r ver off len : Nat)
  | ptr (r off : Nat)
  | ref (τ : Ty) (x : τ.T) (k : Nat)
  | elt (r ver i k : Nat)
  | fn (f : FuncId) (caps : List (Nat × Nat))
  | nilF
  | nilI
  | err
  | junk

def Ty.flat : (τ : Ty) → τ.T → List Cell
  | .int k, n => [.int k n]
  | .bool, b => [.bool b]
  | .str, s => [.str s]
  | .unit, _ => []
  | .prod a b, x => a.flat x.1 ++ b.flat x.2
  | .slice e, xs => [.sl e xs]

inductive Blk where
  | arr (ver : Nat) (e : Ty) (xs : List e.T)
  | box (cells : List Cell)

abbrev Heap := List (Nat × Blk)

def Heap.get : Heap → Nat → Option Blk
  | [], _ => none
  | (i, b) :: t, r => bif Nat.beq i r then some b else Heap.get t r

def Heap.set : Heap → Nat → Blk → Heap
  | [], _, _ => []
  | (i, b) :: t, r, b' => bif Nat.beq i r then (i, b') :: t else (i, b) :: Heap.set t r b'

def Heap.drop : Heap → Nat → Heap
  | [], _ => []
  | (i, b) :: t, r => bif Nat.beq i r then Heap.drop t r else (i, b) :: Heap.drop t r

/-- A typed value read off cells; own arrays are read where they stand. -/
def rd (H : Heap) : (τ : Ty) → List Cell → Option (τ.T × List Cell)
  | .int k, .int k' n :: r => if k = k' then some (n, r) else none
  | .bool, .bool b :: r => some (b, r)
  | .str, .str s :: r => some (s, r)
  | .unit, r => some ((), r)
  | .prod a b, r => (rd H a r).bind fun p => (rd H b p.2).bind fun q => some ((p.1, q.1), q.2)
  | .slice e, .sl e' xs :: r => if h : e' = e then some (h ▸ xs, r) else none
  | .slice e, .emp e' :: r => if e' = e then some ([], r) else none
  | .slice e, .own i v :: r =>
    match H.get i with
    | some (.arr v' e' xs) => bif Nat.beq v v' then (if h : e' = e then some (h ▸ xs, r) else none) else none
    | _ => none
  | .slice e, .sub i v o l :: r =>
    match H.get i with
    | some (.arr v' e' xs) => bif Nat.beq v v' then (if h : e' = e then some (((h ▸ xs : List e.T).drop o).take l, r) else none) else none
    | _ => none
  | _, _ => none

structure AV where
  agg : Bool
  cs : List Cell

inductive D where
  | one (v : AV)
  | tup (vs : List AV)

structure St where
  fr : List (Nat × D)
  nxt : Nat
  H : Heap

def look : List (Nat × D) → Nat → Option D
  | [], _ => none
  | (i, d) :: t, r => bif Nat.beq i r then some d else look t r

def put (fr : List (Nat × D)) (dst : Option Nat) (d : D) : List (Nat × D) :=
  match dst with
  | some t => (t, d) :: fr.filter (fun x => !(Nat.beq x.1 t))
  | none => fr

def unput (fr : List (Nat × D)) (dst : Option Nat) : List (Nat × D) :=
  match dst with
  | some t => fr.filter (fun x => !(Nat.beq x.1 t))
  | none => fr

/-! ### Types -/

def szT (P : Program) (t : TypeId) : Option Nat :=
  match P.info? t with
  | some i => some i.size
  | none => none

def eqSz (P : Program) (t : TypeId) (n : Nat) : Bool :=
  match szT P t with
  | some m => Nat.beq m n
  | none => false

def aggT (P : Program) (t : TypeId) : Option Bool :=
  match P.underlying t with
  | some (.struct _) => some true
  | some (.array _ _) => some true
  | some _ => some false
  | none => none

def isAggT (P : Program) (t : TypeId) : Bool :=
  match aggT P t with
  | some b => b
  | none => false

def bytesT (P : Program) (t : TypeId) : Nat :=
  match P.info? t with
  | some i => i.bytes
  | none => 0

def prods : List Ty → Ty
  | [] => .unit
  | [a] => .prod a .unit
  | [a, b] => .prod a b
  | a :: r => .prod a (prods r)

def zeroOk : Ty → List Value → Option (List Value)
  | .int k, .int k' n :: r => bif decide (k = k') && decide (n = 0) then some r else none
  | .bool, .bool b :: r => bif b then none else some r
  | .str, .string s :: r => bif Nat.beq s.size 0 then some r else none
  | .unit, r => some r
  | .prod a b, r => (zeroOk a r).bind (zeroOk b)
  | .slice _, .slice none 0 0 :: r => some r
  | _, _ => none

def mapO {α β : Type} (f : α → Option β) : List α → Option (List β)
  | [] => some []
  | a :: r => (f a).bind fun b => (mapO f r).bind fun bs => some (b :: bs)

def tyOf (P : Program) : Nat → TypeId → Option Ty
  | 0, _ => none
  | n + 1, t =>
    match P.underlying t with
    | some (.int k) => some (.int k)
    | some .bool => some .bool
    | some .string => some .str
    | some (.slice e) => (tyOf P n e).map .slice
    | some (.struct fs) => (mapO (fun f => tyOf P n f) (fs.toList.map (·.type))).map prods
    | _ => none

def zeroT (τ : Ty) : Option Value → Bool
  | some z => match zeroOk τ z.cells.toList with
    | some [] => true
    | _ => false
  | none => false

/-- The type's tree type, checked against the table: size, aggregate or not, zero value. -/
def tyC (P : Program) (t : TypeId) : Option Ty :=
  match tyOf P 8 t, P.info? t with
  | some τ, some i =>
    bif Nat.beq i.size τ.sz && (isAggT P t == τ.isAgg) && zeroT τ i.zero then some τ else none
  | _, _ => none

def elemT (P : Program) (t : TypeId) : Option TypeId :=
  match P.underlying t with
  | some (.slice e) => some e
  | _ => none

def fieldsT (P : Program) (t : TypeId) : Option (List Field) :=
  match P.underlying t with
  | some (.struct fs) => some fs.toList
  | _ => none

/-- The types of the cells of a value. -/
def leafIds (P : Program) : Nat → TypeId → List TypeId
  | 0, _ => []
  | n + 1, t =>
    match P.underlying t with
    | some (.struct fs) => (fs.toList.map fun f => leafIds P n f.type).flatten
    | _ => [t]

/-- A constant's cell. -/
def cstC (P : Program) (t : TypeId) : Value → Option Cell
  | .int k n => some (.int k n)
  | .bool b => some (.bool b)
  | .string s => some (.str s)
  | .nilFunc => some .nilF
  | .nilIface => some .nilI
  | .pointer none => some .junk
  | .slice none 0 0 => (elemT P t).bind fun e => (tyC P e).bind fun τ => some (.emp τ)
  | _ => none

def cstCs (P : Program) : List TypeId → List Value → Option (List Cell)
  | t :: ts, v :: vs => (cstC P t v).bind fun c => (cstCs P ts vs).bind fun cs => some (c :: cs)
  | [], [] => some []
  | _, _ => none

def cst (P : Program) (t : TypeId) (v : Value) : Option AV :=
  match v with
  | .agg vs => (cstCs P (leafIds P 8 t) vs.toList).bind fun cs => some ⟨true, cs⟩
  | v => (cstC P t v).bind fun c => some ⟨false, [c]⟩

def isNone? {β : Type} : Option β → Bool
  | none => true
  | some _ => false

def one? : D → Option AV
  | .one v => some v
  | .tup _ => none

def ev (P : Program) (fr : List (Nat × D)) (t : TypeId) : Operand → Option AV
  | .tmp i => (look fr i).bind one?
  | .const v => cst P t v
  | .func f => some ⟨false, [.fn f []]⟩
  | .global _ => none

def cell1 : AV → Option Cell
  | ⟨false, [c]⟩ => some c
  | _ => none

def ev1 (P : Program) (fr : List (Nat × D)) (t : TypeId) (x : Operand) : Option Cell := (ev P fr t x).bind cell1

def evs (P : Program) (fr : List (Nat × D)) : List TypeId → List Operand → Option (List AV)
  | t :: ts, x :: xs => (ev P fr t x).bind fun v => (evs P fr ts xs).bind fun vs => some (v :: vs)
  | _, [] => some []
  | [], _ :: _ => none

section
variable {α : Type}

def cmpInt (op : BinOp) (a b : Int) : Option Bool :=
  match op with
  | .eql => some (a == b)
  | .neq => some (a != b)
  | .lss => some (decide (a < b))
  | .leq => some (decide (a ≤ b))
  | .gtr => some (decide (a > b))
  | .geq => some (decide (a ≥ b))
  | _ => none

def cmpStr (op : BinOp) (x y : ByteArray) : Option Bool :=
  match op with
  | .eql => some (x.toList == y.toList)
  | .neq => some (!(x.toList == y.toList))
  | .lss => some (Op.bytesLess x.toList y.toList)
  | .leq => some (Op.bytesLess x.toList y.toList || x.toList == y.toList)
  | .gtr => some (!(Op.bytesLess x.toList y.toList || x.toList == y.toList))
  | .geq => some (!(Op.bytesLess x.toList y.toList))
  | _ => none

def bitsInt (op : BinOp) (k : IntKind) (x y : Int) : Option Int :=
  match op with
  | .and => some (k.wrap ((BitVec.ofInt k.bits x &&& BitVec.ofInt k.bits y).toNat))
  | .or => some (k.wrap ((BitVec.ofInt k.bits x ||| BitVec.ofInt k.bits y).toNat))
  | .xor => some (k.wrap ((BitVec.ofInt k.bits x ^^^ BitVec.ofInt k.bits y).toNat))
  | .andNot => some (k.wrap ((BitVec.ofInt k.bits x &&& ~~~(BitVec.ofInt k.bits y)).toNat))
  | _ => none

/-- Binary operations on cells. -/
def bop (cst : Bool) (op : BinOp) (x y : Cell) (k : Cell → Option α) : Option α :=
  match x, y with
  | .int ik a, .int ik' b =>
    match op with
    | .shl => if b < 0 then none else k (.int ik (ik.wrap (a * 2 ^ (min b.toNat ik.bits))))
    | .shr => if b < 0 then none else k (.int ik (a.fdiv (2 ^ (min b.toNat ik.bits))))
    | .add => bif decide (ik = ik') then k (.int ik (ik.wrap (a + b))) else none
    | .sub => bif decide (ik = ik') then k (.int ik (ik.wrap (a - b))) else none
    | .mul => bif decide (ik = ik') then k (.int ik (ik.wrap (a * b))) else none
    | .quo => bif decide (ik = ik') then (if b = 0 then none else k (.int ik (ik.wrap (a.tdiv b)))) else none
    | .rem => bif decide (ik = ik') then (if b = 0 then none else k (.int ik (a.tmod b))) else none
    | op => bif decide (ik = ik') then
        (match cmpInt op a b with
        | some r => k (.bool r)
        | none => match bitsInt op ik a b with
          | some r => k (.int ik r)
          | none => none) else none
  | .str a, .str b =>
    match op with
    | .add => if a.size + b.size ≤ 9223372036854775807 then k (.str (a ++ b)) else none
    | op => match cmpStr op a b with
      | some r => k (.bool r)
      | none => none
  | .bool a, .bool b =>
    match op with
    | .eql => k (.bool (a == b))
    | .neq => k (.bool (!(a == b)))
    | _ => none
  | .nilI, .nilI => bif cst then (match op with
    | .eql => k (.bool true)
    | .neq => k (.bool false)
    | _ => none) else none
  | .err, .nilI => match op with
    | .eql => k (.bool false)
    | .neq => k (.bool true)
    | _ => none
  | _, _ => none

def uop (op : UnOp) (x : Cell) (k : Cell → Option α) : Option α :=
  match op, x with
  | .neg, .int ik n => k (.int ik (ik.wrap (0 - n)))
  | .not, .bool b => k (.bool (!b))
  | _, _ => none

def isConst : Operand → Bool
  | .const _ => true
  | _ => false

/-- An own array's or a tree's length. -/
def lenC (H : Heap) : Cell → Option Nat
  | .sl _ xs => some xs.length
  | .emp _ => some 0
  | .own r v => match H.get r with
    | some (.arr v' _ xs) => bif Nat.beq v v' then some xs.length else none
    | _ => none
  | .sub r v _ l => match H.get r with
    | some (.arr v' _ _) => bif Nat.beq v v' then some l else none
    | _ => none
  | .str s => some s.size
  | _ => none

def takeO {β : Type} : Nat → List β → Option (List β)
  | 0, _ => some []
  | n + 1, a :: r => (takeO n r).bind fun t => some (a :: t)
  | _ + 1, [] => none

/-- The cells behind an address. -/
def cellsOf (H : Heap) : Cell → Option (List Cell)
  | .ptr r off => match H.get r with
    | some (.box cs) => some (cs.drop off)
    | _ => none
  | .ref τ x k => some ((τ.flat x).drop k)
  | .elt r v i k => match H.get r with
    | some (.arr v' e xs) => bif Nat.beq v v' then some ((e.flat (xs.getD i e.zero)).drop k) else none
    | _ => none
  | _ => none

def mkAV (agg : Bool) (cs : List Cell) : Option AV :=
  bif agg then some ⟨true, cs⟩ else match cs with
    | [c] => some ⟨false, [c]⟩
    | _ => none

def loadA (P : Program) (H : Heap) (t : TypeId) (c : Cell) : Option AV :=
  (cellsOf H c).bind fun cs => (szT P t).bind fun n => (aggT P t).bind fun g => (takeO n cs).bind fun l => mkAV g l

/-- 'l' laid over 'cs' from place k on. -/
def splice (cs : List Cell) (k : Nat) (l : List Cell) : List Cell := cs.take k ++ l ++ cs.drop (k + l.length)

def fieldOff (P : Program) (s : TypeId) (f : Nat) : Option Nat :=
  (fieldsT P s).bind fun fs => (fs[f]?).bind fun fd => match szT P fd.type with
    | some (_ + 1) => some fd.offset
    | _ => none

def shiftC (c : Cell) (n : Nat) : Option Cell :=
  match c with
  | .ptr r off => some (.ptr r (off + n))
  | .ref τ x k => some (.ref τ x (k + n))
  | .elt r v i k => some (.elt r v i (k + n))
  | _ => none

/-- May the cell be handed on as a tree's: no reference in it. -/
def isTree : Cell → Bool
  | .int _ _ => true
  | .bool _ => true
  | .str _ => true
  | .sl _ _ => true
  | .emp _ => true
  | _ => false

def rdAll (H : Heap) (τ : Ty) (v : AV) : Option τ.T :=
  match rd H τ v.cs with
  | some (x, []) => some x
  | _ => none

/-- Typed parts laid into a row. -/
def setParts (τ : Ty) : List τ.T → List (Nat × τ.T) → List τ.T
  | xs, [] => xs
  | xs, (i, x) :: r => setParts τ (xs.set i x) r

def evParts (P : Program) (fr : List (Nat × D)) (t : Nat → Option TypeId) : List (Nat × Operand) → Option (List (Nat × AV))
  | [] => some []
  | (i, x) :: r => (t i).bind fun ti => (ev P fr ti x).bind fun v => (evParts P fr t r).bind fun vs => some ((i, v) :: vs)

def rdParts (τ : Ty) : List (Nat × AV) → Option (List (Nat × τ.T))
  | [] => some []
  | (i, v) :: r => bif v.cs.all isTree then (rdAll [] τ v).bind fun x => (rdParts τ r).bind fun xs => some ((i, x) :: xs) else none

/-- The parts of a struct laid into its zero cells. -/
def fillC (places : List (Nat × Nat)) : List Cell → List (Nat × AV) → Option (List Cell)
  | cs, [] => some cs
  | cs, (i, v) :: r => (places[i]?).bind fun p =>
      bif Nat.beq v.cs.length p.2 && Nat.ble (p.1 + v.cs.length) cs.length then fillC places (splice cs p.1 v.cs) r else none

def zeroAV (P : Program) (t : TypeId) : Option AV :=
  match P.info? t with
  | some i => i.zero.bind (cst P t)
  | none => none

def bound (P : Program) (fr : List (Nat × D)) (d : Nat) : Option Operand → Option Cell
  | none => some (.int .i64 d)
  | some x => ev1 P fr 0 x

/-- A slice expression on a row of length n: the tree's part. -/
def sliceK (n : Nat) (lo hi : Cell) (k : Nat → Nat → Option α) : Option α :=
  match lo, hi with
  | .int _ l, .int _ h => if 0 ≤ l ∧ l ≤ h ∧ h ≤ (n : Int) then k l.toNat h.toNat else none
  | _, _ => none


def elSz (H : Heap) (r : Nat) : Option Nat :=
  match H.get r with
  | some (.arr _ e _) => some e.sz
  | _ => none

/-- Do the operands of a comparison fit the type? -/
def opTy (P : Program) (t : TypeId) (c : Cell) : Bool :=
  match c with
  | .bool _ => match P.underlying t with
    | some .bool => true
    | _ => false
  | .nilI => match P.underlying t with
    | some (.interface _) => true
    | _ => false
  | .err => match P.underlying t with
    | some (.interface _) => true
    | _ => false
  | _ => true

/-- Has a value of this type a length as the cell has? -/
def lenOk (P : Program) (t : TypeId) (c : Cell) : Bool :=
  match P.underlying t, c with
  | some .string, .str _ => true
  | some (.slice _), .str _ => false
  | some (.slice _), _ => true
  | _, _ => false

def eqF (P : Program) (g : TypeId → List Cell → List Cell → Option Bool) (cs ds : List Cell) : List Field → Option Bool
  | [] => some true
  | f :: fs => if f.name ≠ "_" then
      (szT P f.type).bind fun n => (takeO n (cs.drop f.offset)).bind fun l => (takeO n (ds.drop f.offset)).bind fun l' =>
        (g f.type l l').bind fun b => (eqF P g cs ds fs).bind fun r => some (b && r)
    else eqF P g cs ds fs

/-- Are two values of type t equal, part by part? -/
def eqT (P : Program) : Nat → TypeId → List Cell → List Cell → Option Bool
  | 0, _, _, _ => none
  | d + 1, t, cs, ds => match P.underlying t with
    | some (.int _) => match cs, ds with
      | [.int k a], [.int k' b] => bif decide (k = k') then some (a == b) else none
      | _, _ => none
    | some .bool => match cs, ds with
      | [.bool a], [.bool b] => some (a == b)
      | _, _ => none
    | some .string => match cs, ds with
      | [.str a], [.str b] => some (a.toList == b.toList)
      | _, _ => none
    | some (.struct fs) => bif P.stoodInHeld t then none else eqF P (eqT P d) cs ds fs.toList
    | _ => none

/-- Is it a type of slices of bytes? -/
def isU8s (P : Program) (t : TypeId) : Bool :=
  match P.underlying t with
  | some (.slice e) => match P.underlying e with
    | some (.int .u8) => true
    | _ => false
  | _ => false

/-- Bytes as a string. -/
def strOf (xs : List Int) : ByteArray := xs.foldl (fun r n => r.push (UInt8.ofNat n.toNat)) ByteArray.empty

/-- Operations that read, reckon and make memory: 'k result new-blocks'. -/
def pop (P : Program) (H : Heap) (n0 : Nat) (fr : List (Nat × D)) (ty : TypeId) (op : Op) (k : D → List Blk → Option α) : Option α :=
  match op with
  | .move (.tmp i) => (look fr i).bind fun d => k d []
  | .assign (.tmp i) => (look fr i).bind fun d => k d []
  | .move x => (ev P fr ty x).bind fun v => k (.one v) []
  | .assign x => (ev P fr ty x).bind fun v => k (.one v) []
  | .pick c a b => (ev1 P fr 0 c).bind fun cc => match cc with
    | .bool t => bif t then (ev P fr ty a).bind fun v => k (.one v) [] else (ev P fr ty b).bind fun v => k (.one v) []
    | _ => none
  | .alloc t => (zeroAV P t).bind fun v => k (.one ⟨false, [.ptr n0 0]⟩) [.box v.cs]
  | .box t x => (ev P fr t x).bind fun v => k (.one ⟨false, [.ptr n0 0]⟩) [.box v.cs]
  | .build t parts => (fieldsT P t).bind fun fs => (fs.mapM fun f => (P.info? f.type).map fun i => (f.offset, i.size)).bind fun places => (zeroAV P t).bind fun z =>
      (evParts P fr (fun i => (fs[i]?).map (·.type)) parts.toList).bind fun vs =>
      (fillC places z.cs vs).bind fun cs => k (.one ⟨true, cs⟩) []
  | .buildSlice t len parts => (elemT P t).bind fun e => (tyC P e).bind fun τ =>
      (evParts P fr (fun _ => some e) parts.toList).bind fun vs => (rdParts τ vs).bind fun xs =>
      bif Nat.ble (len * τ.sz) 16777216 && vs.all (fun x => Nat.blt x.1 len) then k (.one ⟨false, [.own n0 0]⟩) [.arr 0 τ (setParts τ (List.replicate len τ.zero) xs)] else none
  | .load t x => (ev1 P fr 0 x).bind fun c => (loadA P H t c).bind fun v => k (.one v) []
  | .nilCheck x => (ev1 P fr 0 x).bind fun c => match c with
    | .fn f caps => k (.one ⟨false, [.fn f caps]⟩) []
    | c => (cellsOf H c).bind fun _ => k (.one ⟨false, [c]⟩) []
  | .binOp op t x y _ => (ev P fr t x).bind fun v => (ev P fr t y).bind fun u =>
      bif v.agg then (bif u.agg && !(P.eqGuardType P.depth t) && isAggT P t then (eqT P 6 t v.cs u.cs).bind fun b => match op with
        | .eql => k (.one ⟨false, [.bool b]⟩) []
        | .neq => k (.one ⟨false, [.bool (!b)]⟩) []
        | _ => none else none)
      else (cell1 v).bind fun a => (cell1 u).bind fun b => bif opTy P t a then bop (isConst x || isConst y) op a b fun c => k (.one ⟨false, [c]⟩) [] else none
  | .unOp op t x => (ev1 P fr t x).bind fun a => uop op a fun c => k (.one ⟨false, [c]⟩) []
  | .convert src dst x => bif isNone? (P.underlying src) then none else (ev1 P fr src x).bind fun a => match a, P.underlying dst with
    | .int _ n, some (.int ik) => k (.one ⟨false, [.int ik (ik.wrap n)]⟩) []
    | .str s, some .string => k (.one ⟨false, [.str s]⟩) []
    | c, some .string => bif isU8s P src then (match rd H (.slice (.int .u8)) [c] with
      | some (xs, []) => k (.one ⟨false, [.str (strOf xs)]⟩) []
      | _ => none) else none
    | _, _ => none
  | .makeFunc (.func f) first captured =>
      bif Nat.beq first.size 0 then
        (evs P fr (captured.toList.map fun _ => 0) captured.toList).bind fun vs =>
        (mapO (fun v => match v with | ⟨false, [.ptr r o]⟩ => some (r, o) | _ => none) vs).bind fun caps => k (.one ⟨false, [.fn f caps]⟩) []
      else none
  | .makeSlice t len cap => (elemT P t).bind fun e => (tyC P e).bind fun τ =>
      (ev1 P fr 0 len).bind fun l => (ev1 P fr 0 cap).bind fun c => match l, c with
      | .int .i64 n, .int .i64 m => if 0 ≤ n ∧ n ≤ m ∧ m * (bytesT P e : Int) ≤ 140737488355328 ∧ m ≤ 140737488355328 then k (.one ⟨false, [.own n0 0]⟩) [.arr 0 τ (List.replicate n.toNat τ.zero)] else none
      | _, _ => none
  | .slice t x lo hi mx => bif isNone? mx then
      (ev1 P fr 0 x).bind fun c => (lenC H c).bind fun n => (bound P fr 0 lo).bind fun l => (bound P fr n hi).bind fun h => match P.underlying t, c with
        | some .string, .str s => sliceK n l h fun a b => k (.one ⟨false, [.str (s.extract a b)]⟩) []
        | some (.slice et), .sl e xs => bif eqSz P et e.sz then sliceK n l h fun a b => k (.one ⟨false, [.sl e ((xs.take b).drop a)]⟩) [] else none
        | some (.slice et), .own r v => (elSz H r).bind fun z => bif eqSz P et z then sliceK n l h fun a b => k (.one ⟨false, [.sub r v a (b - a)]⟩) [] else none
        | some (.slice et), .sub r v o _ => (elSz H r).bind fun z => bif eqSz P et z then sliceK n l h fun a b => k (.one ⟨false, [.sub r v (o + a) (b - a)]⟩) [] else none
        | _, _ => none
      else none
  | .fieldAddr s x f => (ev1 P fr 0 x).bind fun c => (cellsOf H c).bind fun _ => (fieldOff P s f).bind fun o => (shiftC c o).bind fun c' => k (.one ⟨false, [c']⟩) []
  | .field s x f => (ev P fr s x).bind fun v => (fieldsT P s).bind fun fs => (fs[f]?).bind fun fd =>
      bif v.agg then (szT P fd.type).bind fun n => (aggT P fd.type).bind fun g => (takeO n (v.cs.drop fd.offset)).bind fun l => (mkAV g l).bind fun u => k (.one u) [] else none
  | .indexAddr t x ix => (elemT P t).bind fun e => (ev1 P fr 0 x).bind fun c => (ev1 P fr 0 ix).bind fun i => match i with
    | .int _ n => match c with
      | .sl τ xs => bif eqSz P e τ.sz then (if 0 ≤ n then (xs[n.toNat]?).bind fun y => k (.one ⟨false, [.ref τ y 0]⟩) [] else none) else none
      | .own r v => match H.get r with
        | some (.arr v' τ xs) => bif Nat.beq v v' && eqSz P e τ.sz then (if 0 ≤ n ∧ n < (xs.length : Int) then k (.one ⟨false, [.elt r v n.toNat 0]⟩) [] else none) else none
        | _ => none
      | .sub r v o l => match H.get r with
        | some (.arr v' τ _) => bif Nat.beq v v' && eqSz P e τ.sz then (if 0 ≤ n ∧ n < (l : Int) then k (.one ⟨false, [.elt r v (o + n.toNat) 0]⟩) [] else none) else none
        | _ => none
      | _ => none
    | _ => none
  | .index t x ix => match P.underlying t with
    | some .string => (ev1 P fr t x).bind fun c => (ev1 P fr 0 ix).bind fun i => match c, i with
      | .str s, .int _ n => if 0 ≤ n ∧ n < (s.size : Int) then k (.one ⟨false, [.int .u8 ((s.get! n.toNat).toNat : Int)]⟩) [] else none
      | _, _ => none
    | _ => none
  | .extract x i => match x with
    | .tmp t => (look fr t).bind fun d => match d with
      | .tup vs => (vs[i]?).bind fun v => k (.one v) []
      | .one _ => none
    | _ => none
  | .call { callee := .builtin b, args, argTypes } => (evs P fr argTypes.toList args.toList).bind fun vs => (mapO cell1 vs).bind fun cs =>
    match b, cs with
    | .len, [c] => bif lenOk P (argTypes.getD 0 0) c then (lenC H c).bind fun n => k (.one ⟨false, [.int .i64 n]⟩) [] else none
    | .max, [.int ik a, .int ik' c] => bif decide (ik = ik') then k (.one ⟨false, [.int ik (if c > a then c else a)]⟩) [] else none
    | .min, [.int ik a, .int ik' c] => bif decide (ik = ik') then k (.one ⟨false, [.int ik (if c < a then c else a)]⟩) [] else none
    | _, _ => none
  | _ => none

end
end Go.Proofs.Ytgmcefnlcalagaa.AM
