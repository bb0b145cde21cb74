/- The abstract machine: an operation's result does not hang on how one goes on. No condition. -/
import Derived.Test.YtgmcefnlcalagaaAm17
namespace Go.Proofs.Ytgmcefnlcalagaa.AM
open Go Go.RowKit
set_option linter.unusedSimpArgs false
set_option linter.unusedVariables false

theorem bind_nat {α β γ δ : Type} {x : Option γ} {A : γ → Option α} {B : γ → Option β} {K : β → Option α} (h : ∀ y, A y = (B y).bind K) : x.bind A = (x.bind B).bind K := by
  cases x with
  | none => rfl
  | some y => exact h y

theorem cond_nat {α β : Type} {b : Bool} {A A' : Option α} {B B' : Option β} {K : β → Option α} (h : A = B.bind K) (h' : A' = B'.bind K) : (bif b then A else A') = (bif b then B else B').bind K := by
  cases b
  · exact h'
  · exact h

theorem ite_nat {α β : Type} {p : Prop} [Decidable p] {A A' : Option α} {B B' : Option β} {K : β → Option α} (h : A = B.bind K) (h' : A' = B'.bind K) : (if p then A else A') = (if p then B else B').bind K := by
  split
  · exact h
  · exact h'

theorem bop_nat {α : Type} {cst : Bool} {op : BinOp} {x y : Cell} {k : Cell → Option α} : bop cst op x y k = (bop cst op x y some).bind k := by
  unfold bop
  repeat' first
    | rfl
    | refine cond_nat ?_ ?_
    | refine ite_nat ?_ ?_
    | split

theorem uop_nat {α : Type} {op : UnOp} {x : Cell} {k : Cell → Option α} : uop op x k = (uop op x some).bind k := by
  unfold uop
  split <;> rfl

theorem sliceK_nat {α β : Type} {n : Nat} {lo hi : Cell} {A : Nat → Nat → Option α} {B : Nat → Nat → Option β} {K : β → Option α} (h : ∀ a b, A a b = (B a b).bind K) : sliceK n lo hi A = (sliceK n lo hi B).bind K := by
  unfold sliceK
  repeat' first
    | rfl
    | exact h _ _
    | refine ite_nat ?_ ?_
    | split

theorem bop_nat2 {α β : Type} {cst : Bool} {op : BinOp} {x y : Cell} {A : Cell → Option α} {B : Cell → Option β} {K : β → Option α} (h : ∀ c, A c = (B c).bind K) : bop cst op x y A = (bop cst op x y B).bind K := by
  rw [bop_nat (k := A), bop_nat (k := B)]
  exact bind_nat (δ := Unit) h

theorem uop_nat2 {α β : Type} {op : UnOp} {x : Cell} {A : Cell → Option α} {B : Cell → Option β} {K : β → Option α} (h : ∀ c, A c = (B c).bind K) : uop op x A = (uop op x B).bind K := by
  rw [uop_nat (k := A), uop_nat (k := B)]
  exact bind_nat (δ := Unit) h

theorem pop_nat {α : Type} (P : Program) (H : Heap) (n0 : Nat) (fr : List (Nat × D)) (ty : TypeId) (op : Op) (k : D → List Blk → Option α) :
    pop P H n0 fr ty op k = (pop P H n0 fr ty op (fun d bs => some (d, bs))).bind fun p => k p.1 p.2 := by
  unfold pop
  split
  all_goals
    repeat' first
      | rfl
      | (refine bind_nat (δ := Unit) (fun _ => ?_))
      | refine cond_nat ?_ ?_
      | refine ite_nat ?_ ?_
      | (refine sliceK_nat (fun _ _ => ?_))
      | (refine bop_nat2 (fun _ => ?_))
      | (refine uop_nat2 (fun _ => ?_))
      | split

theorem qop_nat {α : Type} (P : Program) (G : FuncId → Option CE) (H : Heap) (n0 : Nat) (fr : List (Nat × D)) (o : Oper) (k : D → List Blk → Option α) :
    qop P G H n0 fr o k = (qop P G H n0 fr o (fun d bs => some (d, bs))).bind fun p => k p.1 p.2 := by
  unfold qop
  split
  · refine bind_nat (δ := Unit) (fun p => ?_)
    split
    · unfold PC.run
      exact bind_nat (δ := Unit) (fun _ => rfl)
    · rfl
  · exact pop_nat _ _ _ _ _ _ _

end Go.Proofs.Ytgmcefnlcalagaa.AM
