/- The abstract machine: regions, code, calls and loops. Definitions only; no condition. -/
import Derived.Test.YtgmcefnlcalagaaAm1
namespace Go.Proofs.Ytgmcefnlcalagaa.AM
open Go

inductive Ex where
  | normal
  | exit (id : Nat)
  | ret

/-- A pure contract: what the call reckons from its arguments, and the result with its new blocks. -/
structure PC where
  β : Type
  f : Heap → List AV → Option β
  res : Nat → β → D × List Blk

def PC.run {α : Type} (c : PC) (H : Heap) (n : Nat) (args : List AV) (k : D → List Blk → Option α) : Option α :=
  (c.f H args).bind fun y => k (c.res n y).1 (c.res n y).2

structure GC where
  run : {α : Type} → St → List AV → (D → St → Option α) → Option α
structure LC where
  dep : Nat
  run : {α : Type} → Nat → St → (Ex → St → Option α) → Option α

/-- What a proof gives beside the code: for each loop the slots that live at its head, and its summary. -/
inductive LT : Type 1 where
  | leaf
  | node (a b : LT)
  | loop (live outs : List Nat) (L : Option LC) (inner : LT)

def LT.l : LT → LT
  | .node a _ => a
  | t => t
def LT.r : LT → LT
  | .node _ b => b
  | t => t

/-- How deep calls go that a loop's summary leans on. -/
def LT.dep : LT → Nat
  | .leaf => 0
  | .node a b => bif Nat.ble a.dep b.dep then b.dep else a.dep
  | .loop _ _ none t => t.dep
  | .loop _ _ (some L) t => bif Nat.ble L.dep t.dep then t.dep else L.dep

/-- Is the first number not greater? It is told by the first number alone where that is 0. -/
def leB : Nat → Nat → Bool
  | 0, _ => true
  | _ + 1, 0 => false
  | a + 1, b + 1 => leB a b

theorem leB_le : ∀ {a b : Nat}, leB a b = true → a ≤ b := by
  intro a
  induction a with
  | zero => intro b _; exact Nat.zero_le _
  | succ a ih => intro b h; cases b with
    | zero => cases h
    | succ b => exact Nat.succ_le_succ (ih h)

inductive CE : Type 1 where
  | pure (c : PC)
  | gen (c : GC)
  | inl (lt : LT)

def newBlks : Nat → List Blk → Heap
  | _, [] => []
  | n, b :: r => (n, b) :: newBlks (n + 1) r

def addBlks (st : St) (d : D) (dst : Option Nat) (bs : List Blk) : St :=
  ⟨put st.fr dst d, st.nxt + bs.length, newBlks st.nxt bs ++ st.H⟩

/-- Own arrays among the cells become trees: they are never written any more. -/
def frz : Heap → List Cell → Option (List Cell × Heap)
  | H, [] => some ([], H)
  | H, .own r v :: cs =>
    match H.get r with
    | some (.arr v' e xs) => bif Nat.beq v v' then (frz (H.drop r) cs).bind fun p => some (.sl e xs :: p.1, p.2) else none
    | _ => none
  | H, .sub r v o l :: cs =>
    match H.get r with
    | some (.arr v' e xs) => bif Nat.beq v v' then (frz (H.drop r) cs).bind fun p => some (.sl e ((xs.drop o).take l) :: p.1, p.2) else none
    | _ => none
  | H, c :: cs => bif isTree c then (frz H cs).bind fun p => some (c :: p.1, p.2) else none

section
variable {α : Type}

def storeA (P : Program) (H : Heap) (t : TypeId) (a : Cell) (v : AV) : Option Heap :=
  bif eqSz P t v.cs.length then
    match a with
    | .ptr r off => match H.get r with
      | some (.box cs) => bif Nat.ble (off + v.cs.length) cs.length then some (H.set r (.box (splice cs off v.cs))) else none
      | _ => none
    | .elt r v0 i k => (frz H v.cs).bind fun p => match p.2.get r with
      | some (.arr v' e xs) => bif Nat.beq v0 v' && Nat.ble (k + v.cs.length) e.sz then
          (match rd [] e (splice (e.flat (xs.getD i e.zero)) k p.1) with
          | some (x, []) => some (p.2.set r (.arr v' e (xs.set i x)))
          | _ => none) else none
      | _ => none
    | _ => none
  else none

def bytesOf (s : ByteArray) : List Int := s.data.toList.map fun b => (b.toNat : Int)

/-- What is appended, typed. -/
def tailOf (H : Heap) (e : Ty) (c : Cell) : Option (List e.T) :=
  match c with
  | .str s => match e with
    | .int .u8 => some (bytesOf s)
    | _ => none
  | c => match rd H (.slice e) [c] with
    | some (xs, []) => some xs
    | _ => none

/-- Is e the element type of an own array of trees of type τ? -/
def isTy (P : Program) (e : TypeId) (τ : Ty) : Bool :=
  match tyC P e with
  | some τ' => decide (τ' = τ)
  | none => false

/-- Is there room for n elements of so many bytes? -/
def capOk (n b : Nat) : Bool := Nat.ble (n * b) 140737488355328 && Nat.ble n 140737488355328

theorem capOk_spec {n b : Nat} (h : capOk n b = true) : (n : Int) * (b : Int) ≤ 140737488355328 ∧ n ≤ 140737488355328 := by
  unfold capOk at h
  rw [Bool.and_eq_true] at h
  have h1 := Nat.le_of_ble_eq_true h.1
  have h2 := Nat.le_of_ble_eq_true h.2
  refine ⟨?_, h2⟩
  rw [← Int.natCast_mul]
  omega

def appendA (P : Program) (st : St) (e : TypeId) (s x : Cell) (k : Cell → St → Option α) : Option α :=
  match s with
  | .emp τ => (tailOf st.H τ x).bind fun ys =>
      bif isTy P e τ then
        (bif capOk ys.length (bytesT P e) then k (.own st.nxt 0) ⟨st.fr, st.nxt + 1, (st.nxt, .arr 0 τ ys) :: st.H⟩ else none) else none
  | .own r v => match st.H.get r with
    | some (.arr v' τ xs) => (tailOf st.H τ x).bind fun ys =>
      bif Nat.beq v v' && isTy P e τ then
        (bif capOk (xs.length + ys.length) (bytesT P e) then
          k (.own r (v' + 1)) ⟨st.fr, st.nxt, st.H.set r (.arr (v' + 1) τ (xs ++ ys))⟩ else none) else none
    | _ => none
  | .sub r v o l => match st.H.get r with
    | some (.arr v' τ xs) => (tailOf st.H τ x).bind fun ys =>
      bif Nat.beq v v' && isTy P e τ then
        (bif capOk (l + ys.length) (bytesT P e) then
          k (.own r (v' + 1)) ⟨st.fr, st.nxt, st.H.set r (.arr (v' + 1) τ (((xs.drop o).take l) ++ ys))⟩ else none) else none
    | _ => none
  | _ => none

/-- The type of what is appended: a slice's or a string's. -/
def tailTy (P : Program) (t : TypeId) : Bool :=
  match P.underlying t with
  | some (.slice _) => true
  | some .string => true
  | _ => false

def capAVs (caps : List (Nat × Nat)) : List AV := caps.map fun c => ⟨false, [.ptr c.1 c.2]⟩

/-- A function with a body. -/
def fnOk (P : Program) (f : FuncId) : Bool :=
  match P.funcs[f]? with
  | some fn => !(fn.name == "runtime.NumGoroutine") && fn.body.isSome
  | none => false

def isBox (H : Heap) (r : Nat) : Bool :=
  match H.get r with
  | some (.box _) => true
  | _ => false

/-- The callee and its arguments. -/
def callee (P : Program) (H : Heap) (fr : List (Nat × D)) (f : Operand) (args : List Operand) (ts : List TypeId) : Option (FuncId × List AV) :=
  (ev1 P fr 0 f).bind fun c => match c with
    | .fn g caps => bif fnOk P g && caps.all (fun c => isBox H c.1) then (evs P fr ts args).bind fun vs => some (g, vs ++ capAVs caps) else none
    | _ => none

/-- Is it an operation that reads, reckons or makes memory? A call: of a function with a pure contract. -/
def isCall : Op → Bool
  | .call { callee := .value _, .. } => true
  | _ => false

def isWrite : Op → Bool
  | .store _ _ _ => true
  | .call { callee := .builtin .append, .. } => true
  | _ => false

/-- An operation of the part that may come in any order: result and new blocks. -/
def qop (P : Program) (G : FuncId → Option CE) (H : Heap) (n0 : Nat) (fr : List (Nat × D)) (o : Oper) (k : D → List Blk → Option α) : Option α :=
  match o.op with
  | .call { callee := .value f, args, argTypes } =>
    (callee P H fr f args.toList argTypes.toList).bind fun p => match G p.1 with
      | some (.pure c) => c.run H n0 p.2 k
      | _ => none
  | op => pop P H n0 fr o.type op k

/-- Any operation, in its turn. -/
def aop (P : Program) (G : FuncId → Option CE) (call : FuncId → LT → List AV → St → (D → St → Option α) → Option α) (st : St) (o : Oper) (k : St → Option α) : Option α :=
  match o.op with
  | .store t a x => (ev1 P st.fr 0 a).bind fun c => (ev P st.fr t x).bind fun v => (storeA P st.H t c v).bind fun H => k ⟨put st.fr o.dst (.tup []), st.nxt, H⟩
  | .call { callee := .builtin .append, args, argTypes } =>
    (evs P st.fr argTypes.toList args.toList).bind fun vs => (mapO cell1 vs).bind fun cs => match cs, argTypes.toList with
      | [s, x], t :: t2 :: _ => bif tailTy P t2 then (elemT P t).bind fun e => appendA P st e s x fun c st' => k ⟨put st'.fr o.dst (.one ⟨false, [c]⟩), st'.nxt, st'.H⟩ else none
      | _, _ => none
  | .call { callee := .value f, args, argTypes } =>
    (callee P st.H st.fr f args.toList argTypes.toList).bind fun p => match G p.1 with
      | some (.pure c) => c.run st.H st.nxt p.2 fun d bs => k (addBlks st d o.dst bs)
      | some (.gen c) => c.run st p.2 fun d st' => k ⟨put st'.fr o.dst d, st'.nxt, st'.H⟩
      | some (.inl lt) => call p.1 lt p.2 st fun d st' => k ⟨put st'.fr o.dst d, st'.nxt, st'.H⟩
      | none => none
  | op => pop P st.H st.nxt st.fr o.type op fun d bs => k (addBlks st d o.dst bs)

def guardVal (all : List Oper) (fr : List (Nat × D)) (j : Nat) : Option D := ((all[j]?).bind (·.dst)).bind (look fr)

/-- Is the operation wanted? -/
def wantedK (all : List Oper) (fr : List (Nat × D)) (o : Oper) (kt kf : Option α) : Option α :=
  match o.guard with
  | none => kt
  | some (j, b) => match guardVal all fr j with
    | some (.one ⟨false, [.bool x]⟩) => bif b then (bif x then kt else kf) else (bif x then kf else kt)
    | some (.tup []) => kf
    | _ => none

/-- The slots on which guards of the region's operations lean. -/
def gslots (all : List Oper) : List Nat := all.filterMap fun o => match o.guard with
  | some (j, _) => (all[j]?).bind (·.dst)
  | none => none

def isIn : List Nat → Nat → Bool
  | [], _ => false
  | i :: t, r => bif Nat.beq i r then true else isIn t r

def isG (all : List Oper) (dst : Option Nat) : Bool :=
  match dst with
  | some t => isIn (gslots all) t
  | none => false

/-- A guard's value is told apart at once. -/
def splitD (g : Bool) (d : D) (k : D → Option α) : Option α :=
  bif g then (match d with
    | .one ⟨false, [.bool x]⟩ => bif x then k (.one ⟨false, [.bool true]⟩) else k (.one ⟨false, [.bool false]⟩)
    | d => k d) else k d

def splitS (g : Bool) (st : St) (k : St → Option α) : Option α :=
  bif g then (match st.fr with
    | (t, .one ⟨false, [.bool x]⟩) :: fr => bif x then k ⟨(t, .one ⟨false, [.bool true]⟩) :: fr, st.nxt, st.H⟩ else k ⟨(t, .one ⟨false, [.bool false]⟩) :: fr, st.nxt, st.H⟩
    | _ => k st) else k st

theorem splitD_eq (g : Bool) (d : D) (k : D → Option α) : splitD g d k = k d := by
  unfold splitD
  cases g with
  | false => rfl
  | true =>
    simp only [cond_true]
    split
    · rename_i x; cases x <;> rfl
    · rfl

theorem splitS_eq (g : Bool) (st : St) (k : St → Option α) : splitS g st k = k st := by
  unfold splitS
  cases g with
  | false => rfl
  | true =>
    simp only [cond_true]
    split
    · rename_i t x fr h
      obtain ⟨fr', n, H⟩ := st
      simp only at h
      subst h
      cases x <;> rfl
    · rfl

/-- A region's operations in the order of the text. -/
def arun (P : Program) (G : FuncId → Option CE) (call : FuncId → LT → List AV → St → (D → St → Option α) → Option α) (all : List Oper) :
    List Oper → St → (St → Option α) → Option α
  | [], st, k => k st
  | o :: os, st, k => wantedK all st.fr o (aop P G call st o fun st' => splitS (isG all o.dst) st' fun st' => arun P G call all os st' k) (arun P G call all os ⟨put st.fr o.dst (.tup []), st.nxt, st.H⟩ k)

/-- New blocks of operations that come before operation i by edges. -/
def visible (b : Nat) : List (Nat × Nat × Blk) → Heap
  | [] => []
  | (i, r, x) :: t => bif Nat.testBit b i then (r, x) :: visible b t else visible b t

def tagBlks (i : Nat) : Nat → List Blk → List (Nat × Nat × Blk)
  | _, [] => []
  | n, b :: r => (i, n, b) :: tagBlks i (n + 1) r

def cRefs : Cell → List Nat
  | .own r _ => [r]
  | .sub r _ _ _ => [r]
  | .elt r _ _ _ => [r]
  | .ptr r _ => [r]
  | .fn _ caps => caps.map (·.1)
  | _ => []

def dRefs : D → List Nat
  | .one v => (v.cs.map cRefs).flatten
  | .tup vs => (vs.map fun v => (v.cs.map cRefs).flatten).flatten

def isArr : Blk → Bool
  | .arr _ _ _ => true
  | .box _ => false

/-- Does the result lead to old blocks and to those alone that come before by edges? -/
def refsOk (n0 : Nat) (V : Heap) (d : D) : Bool := (dRefs d).all fun r => Nat.blt r n0 || !(isNone? (V.get r))

def liveFr (fr : List (Nat × D)) : List Nat → List (Nat × D)
  | [] => []
  | s :: t => match look fr s with
    | some d => (s, d) :: liveFr fr t
    | none => liveFr fr t

def opTmps (o : Oper) : List Nat := o.op.operands.toList.filterMap fun | .tmp t => some t | _ => none

/-- The part of a drawn region that may come in any order: each operation sees its operands, the memory as it was, and what comes before it by edges. -/
def qrun (P : Program) (G : FuncId → Option CE) (all : List Oper) (anc : List Nat) (H : Heap) (n0 : Nat) :
    Nat → List Oper → List (Nat × D) → Nat → List (Nat × Nat × Blk) → (List (Nat × D) → Nat → List (Nat × Nat × Blk) → Option α) → Option α
  | _, [], fr, n, news, k => k fr n news
  | i, o :: os, fr, n, news, k =>
    wantedK all fr o
      (qop P G (visible (anc.getD i 0) news ++ H) n (liveFr fr (opTmps o)) o fun d bs => splitD (isG all o.dst) d fun d =>
        bif bs.all isArr && refsOk n0 (newBlks n bs ++ visible (anc.getD i 0) news) d then
          qrun P G all anc H n0 (i + 1) os (put fr o.dst d) (n + bs.length) (tagBlks i n bs ++ news) k else none)
      (qrun P G all anc H n0 (i + 1) os (put fr o.dst (.tup [])) n news k)

end

/-- How many operations stand ahead of the first that writes. -/
def headLen : List Oper → Nat
  | [] => 0
  | o :: os => bif isWrite o.op then 0 else headLen os + 1

def edgesOk (l : List Oper) (i : Nat) (o : Oper) : Bool := o.after.toList.all fun e => Nat.blt e.on i || (match e.ground with | .gcOnly _ => Nat.blt e.on l.length | _ => false)

def orBits : List Nat → Nat → Nat
  | [], a => a
  | e :: es, a => orBits es (a ||| e)

/-- For each operation the bits of all that come before it by edges. -/
def ancs : List Oper → List Nat → List Nat
  | [], acc => acc
  | o :: os, acc => ancs os (acc ++ [orBits (o.after.toList.map fun e => bif Region.binds .any e then 2 ^ e.on ||| acc.getD e.on 0 else 0) 0])

/-- The writers of slot t among the first m operations, by place. -/
def writers (l : List Oper) (m t : Nat) : List Nat := ((l.take m).zipIdx.filter fun (o, _) => o.dst == some t).map (·.2)

def guardTmps (all : List Oper) (o : Oper) : List Nat :=
  match o.guard with
  | some (j, _) => match (all[j]?).bind (·.dst) with
    | some t => [t]
    | none => []
  | none => []

def dstOk (N : Nat) (o : Oper) : Bool :=
  match o.dst with
  | some t => Nat.blt t N
  | none => true

/-- May the first m operations come in any order that the edges allow? -/
def okDraw (l : List Oper) (anc : List Nat) (m : Nat) : Bool :=
  (l.zipIdx.all fun (o, i) => edgesOk l i o) &&
  ((l.take m).zipIdx.all fun (o, i) =>
    ((opTmps o ++ guardTmps l o).all fun t => (writers l m t).all fun j => Nat.testBit (anc.getD i 0) j) &&
    (match o.dst with | some t => (writers l m t).all (fun j => Nat.beq i j) | none => true)) &&
  ((l.drop m).zipIdx.all fun (_, i) => (List.range (m + i)).all fun j => Nat.testBit (anc.getD (m + i) 0) j)

section
variable {α : Type}

def areg (P : Program) (G : FuncId → Option CE) (call : FuncId → LT → List AV → St → (D → St → Option α) → Option α) (N : Nat) (ops : Array Oper) (draw : Bool) (st : St) (k : St → Option α) : Option α :=
  let l := ops.toList
  bif !(l.all (dstOk N)) then none else bif draw then
    let anc := ancs l []
    let m := headLen l
    bif okDraw l anc m then
      qrun P G l anc st.H st.nxt 0 (l.take m) st.fr st.nxt [] fun fr n news => arun P G call l (l.drop m) ⟨fr, n, news.map (·.2) ++ st.H⟩ k
    else none
  else arun P G call l l st k

/-! ### Collecting: the slots that live, and what they lead to, numbered anew -/

def cellIds (H : Heap) : Cell → List Nat
  | .own r v => match H.get r with
    | some (.arr v' _ _) => bif Nat.beq v v' then [r] else []
    | _ => []
  | .sub r v _ _ => match H.get r with
    | some (.arr v' _ _) => bif Nat.beq v v' then [r] else []
    | _ => []
  | .elt r v _ _ => match H.get r with
    | some (.arr v' _ _) => bif Nat.beq v v' then [r] else []
    | _ => []
  | .ptr r _ => match H.get r with
    | some _ => [r]
    | none => []
  | .fn _ caps => (caps.map (·.1)).filter fun r => match H.get r with
    | some _ => true
    | none => false
  | _ => []

def hasId : List Nat → Nat → Bool
  | [], _ => false
  | i :: t, r => bif Nat.beq i r then true else hasId t r

def addIds (ids : List Nat) : List Nat → List Nat
  | [] => ids
  | r :: t => bif hasId ids r then addIds ids t else addIds (ids ++ [r]) t

def dIds (H : Heap) : D → List Nat
  | .one v => (v.cs.map (cellIds H)).flatten
  | .tup vs => (vs.map fun v => (v.cs.map (cellIds H)).flatten).flatten

def blkIds (H : Heap) : Option Blk → List Nat
  | some (.box cs) => (cs.map (cellIds H)).flatten
  | _ => []

def closeIds (H : Heap) (base : Nat) : Nat → Nat → List Nat → List Nat
  | 0, _, ids => ids
  | n + 1, i, ids => match ids[i]? with
    | some r => closeIds H base n (i + 1) (addIds ids ((blkIds H (H.get r)).filter fun r => Nat.ble base r))
    | none => ids

def nodupB : List Nat → Bool
  | [] => true
  | i :: t => !(hasId t i) && nodupB t

def idx : List Nat → Nat → Nat → Option Nat
  | [], _, _ => none
  | i :: t, r, n => bif Nat.beq i r then some n else idx t r (n + 1)

/-- The new number of a block. -/
def renI (base : Nat) (ids : List Nat) (r : Nat) : Option Nat := bif Nat.blt r base then some r else (idx ids r 0).map (base + ·)

def renCaps (base : Nat) (ids : List Nat) : List (Nat × Nat) → Option (List (Nat × Nat))
  | [] => some []
  | (r, o) :: t => (renI base ids r).bind fun r' => (renCaps base ids t).bind fun t' => some ((r', o) :: t')

/-- The version with which a block is met anew: blocks below 'base' keep theirs. -/
def renVer (base r v : Nat) : Nat := bif Nat.blt r base then v else 0

def renC (H : Heap) (base : Nat) (ids : List Nat) (c : Cell) : Cell :=
  match c with
  | .own r v => match H.get r, renI base ids r with
    | some (.arr v' _ _), some r' => bif Nat.beq v v' then .own r' (renVer base r v) else .junk
    | _, _ => .junk
  | .sub r v o l => match H.get r, renI base ids r with
    | some (.arr v' _ _), some r' => bif Nat.beq v v' then .sub r' (renVer base r v) o l else .junk
    | _, _ => .junk
  | .elt r v i k => match H.get r, renI base ids r with
    | some (.arr v' _ _), some r' => bif Nat.beq v v' then .elt r' (renVer base r v) i k else .junk
    | _, _ => .junk
  | .ptr r o => match H.get r, renI base ids r with
    | some (.box _), some r' => .ptr r' o
    | _, _ => .junk
  | .fn f caps => match renCaps base ids caps with
    | some caps' => .fn f caps'
    | none => .junk
  | c => c

def renV (H : Heap) (base : Nat) (ids : List Nat) (v : AV) : AV := ⟨v.agg, v.cs.map (renC H base ids)⟩

def renD (H : Heap) (base : Nat) (ids : List Nat) : D → D
  | .one v => .one (renV H base ids v)
  | .tup vs => .tup (vs.map (renV H base ids))

def renB0 (H : Heap) (base : Nat) (ids : List Nat) : Blk → Blk
  | .arr v e xs => .arr v e xs
  | .box cs => .box (cs.map (renC H base ids))

def renB (H : Heap) (base : Nat) (ids : List Nat) : Blk → Blk
  | .arr _ e xs => .arr 0 e xs
  | .box cs => .box (cs.map (renC H base ids))

def renH (H : Heap) (base : Nat) (ids : List Nat) : Nat → List Nat → Heap
  | _, [] => []
  | n, r :: t => match H.get r with
    | some b => (n, renB H base ids b) :: renH H base ids (n + 1) t
    | none => renH H base ids (n + 1) t

def geBase (base : Nat) (l : List Nat) : List Nat := l.filter fun r => Nat.ble base r

def lowIds (base : Nat) : Heap → Heap → List Nat
  | _, [] => []
  | H, (i, b) :: t => bif Nat.blt i base then blkIds H (some b) ++ lowIds base H t else lowIds base H t

def renLow (H : Heap) (base : Nat) (ids : List Nat) : Heap → Heap
  | [] => []
  | (i, b) :: t => bif Nat.blt i base then (i, renB0 H base ids b) :: renLow H base ids t else renLow H base ids t

/-- The blocks below 'base' keep their numbers (their cells are numbered anew); of the others those stay to which the live slots and the former lead, numbered anew from 'base' on. -/
def gc (base : Nat) (live : List Nat) (st : St) : St :=
  let fr := liveFr st.fr live
  let ids := closeIds st.H base (st.H.length + 1) 0 (addIds [] (geBase base ((fr.map fun x => dIds st.H x.2).flatten ++ lowIds base st.H st.H)))
  bif nodupB ids && ids.all (Nat.ble base) then
    ⟨fr.map fun x => (x.1, renD st.H base ids x.2), base + ids.length, renLow st.H base ids st.H ++ renH st.H base ids base ids⟩
  else st

/-- A nil slice in a live slot becomes an own array without an element. -/
def proC (n : Nat) : List Cell → List Cell × Nat × Heap
  | [] => ([], n, [])
  | .emp e :: t => let p := proC (n + 1) t; (.own n 0 :: p.1, p.2.1, (n, .arr 0 e []) :: p.2.2)
  | c :: t => let p := proC n t; (c :: p.1, p.2.1, p.2.2)

def proFr (n : Nat) : List (Nat × D) → List (Nat × D) × Nat × Heap
  | [] => ([], n, [])
  | (s, .one v) :: t => let p := proC n v.cs; let q := proFr p.2.1 t; ((s, .one ⟨v.agg, p.1⟩) :: q.1, q.2.1, p.2.2 ++ q.2.2)
  | (s, .tup vs) :: t => let q := proFr n t; ((s, .tup vs) :: q.1, q.2.1, q.2.2)

def proH (n : Nat) : Heap → Heap × Nat × Heap
  | [] => ([], n, [])
  | (i, .box cs) :: t => let p := proC n cs; let q := proH p.2.1 t; ((i, .box p.1) :: q.1, q.2.1, p.2.2 ++ q.2.2)
  | (i, b) :: t => let q := proH n t; ((i, b) :: q.1, q.2.1, q.2.2)

def pro (st : St) : St :=
  let p := proFr st.nxt st.fr
  let q := proH p.2.1 st.H
  ⟨p.1, q.2.1, q.1 ++ p.2.2 ++ q.2.2⟩

def canon (base : Nat) (live : List Nat) (st : St) : St := gc base live (pro st)

/-! ### Code -/

def iter (f : St → (Ex → St → Option α) → Option α) (cn : St → St) : Nat → St → (Ex → St → Option α) → Option α
  | 0, _, _ => none
  | m + 1, st, k => f st fun e st' => match e with
    | .normal => iter f cn m (cn st') k
    | e => k e st'

def aexec (P : Program) (G : FuncId → Option CE) (call : FuncId → LT → List AV → St → (D → St → Option α) → Option α) (m base N : Nat) :
    Code → LT → St → (Ex → St → Option α) → Option α
  | .skip, _, st, k => k .normal st
  | .region _ ops draw, _, st, k => areg P G call N ops draw st fun st' => k .normal st'
  | .seq a b, lt, st, k => aexec P G call m base N a lt.l st fun e st' => match e with
    | .normal => aexec P G call m base N b lt.r st' k
    | e => k e st'
  | .cond c x y, lt, st, k => match ev1 P st.fr 0 c with
    | some (.bool b) => bif b then aexec P G call m base N x lt.l st k else aexec P G call m base N y lt.r st k
    | _ => none
  | .block id c, lt, st, k => aexec P G call m base N c lt st fun e st' => match e with
    | .exit i => bif Nat.beq i id then k .normal st' else k (.exit i) st'
    | e => k e st'
  | .loop c, lt, st, k => match lt with
    | .loop live _ (some L) _ => L.run base (canon base live st) k
    | .loop live outs none inner => iter (fun s q => aexec P G call m base N c inner s q) (canon base live) m (canon base live st) (fun e s => k e (canon base outs s))
    | _ => iter (fun s q => aexec P G call m base N c .leaf s q) id m st k
  | .exit i, _, st, k => k (.exit i) st
  | .ret, _, st, k => k .ret st
  | .label _, _, st, k => k .normal st
  | _, _, _, _ => none

def resAVs (P : Program) (st : St) : List ResultVar → Option (List AV)
  | [] => some []
  | .tmp t :: r => ((look st.fr t).bind one?).bind fun v => (resAVs P st r).bind fun vs => some (v :: vs)
  | .cell a t :: r => (ev1 P st.fr 0 (.tmp a)).bind fun c => (loadA P st.H t c).bind fun v => (resAVs P st r).bind fun vs => some (v :: vs)

def resD (vs : List AV) : D :=
  match vs with
  | [v] => .one v
  | vs => .tup vs

def argFr : Nat → List AV → List (Nat × D)
  | _, [] => []
  | i, v :: t => (i, .one v) :: argFr (i + 1) t

/-- A function's body over its arguments. -/
def abody (P : Program) (G : FuncId → Option CE) (call : FuncId → LT → List AV → St → (D → St → Option α) → Option α) (m : Nat) (fn : Func) (lt : LT) (args : List AV) (n : Nat) (H : Heap) (k : D → St → Option α) : Option α :=
  match fn.body with
  | some c => bif Nat.ble args.length fn.ntmps then
      aexec P G call m n fn.ntmps c lt ⟨argFr 0 args, n, H⟩ fun e st => match e with
        | .exit _ => none
        | _ => (resAVs P st fn.results.toList).bind fun vs => k (resD vs) st
    else none
  | none => none

def acall (P : Program) (G : FuncId → Option CE) (m : Nat) : Nat → FuncId → LT → List AV → St → (D → St → Option α) → Option α
  | 0, _, _, _, _, _ => none
  | n + 1, f, lt, args, st, k => bif leB lt.dep n then (match P.funcs[f]? with
    | some fn => abody P G (acall P G m n) m fn lt args st.nxt st.H fun d st' => k d ⟨st.fr, st'.nxt, st'.H⟩
    | none => none) else none

end
end Go.Proofs.Ytgmcefnlcalagaa.AM
