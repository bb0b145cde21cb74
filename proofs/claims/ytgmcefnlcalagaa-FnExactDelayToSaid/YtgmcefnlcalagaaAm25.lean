/- The abstract machine: from a run of the machine to the call of a law. No condition. -/
import Derived.Test.YtgmcefnlcalagaaAm24
namespace Go.Proofs.Ytgmcefnlcalagaa.AM
open Go Go.RowKit
set_option linter.unusedSimpArgs false
set_option linter.unusedVariables false

/-- What a law answers. -/
def outB (d : D) (_ : St) : Option Bool :=
  match d with
  | .one ⟨false, [.bool b]⟩ => some b
  | _ => none

theorem LTS_leaf {α : Type} {P : Program} {G : FuncId → Option CE} {call : FuncId → LT → List AV → St → (D → St → Option α) → Option α} {m base N : Nat} : ∀ (c : Code), LTS P G call m base N c .leaf := by
  intro c
  induction c with
  | seq a b iha ihb => exact ⟨iha, ihb⟩
  | cond o a b iha ihb => exact ⟨iha, ihb⟩
  | block id c ih => exact ih
  | loop c ih => exact ih
  | _ => trivial

theorem LTok_leaf {P : Program} {G : FuncId → Option CE} {m : Nat} {f : FuncId} : LTok P G m f .leaf := fun _ _ _ _ c _ _ _ => LTS_leaf c

/-- The context at a law's call: all that is there is never written. -/
def Cx.old (w : World) : Cx := ⟨fun _ => none, fun b => b < w.heap.size, w, [], 0⟩

theorem old_hr (w : World) : HR (fun b => b < w.heap.size) (Cx.old w) :=
  ⟨fun r b h => (by cases h), fun r r' b b' k o o' h => (by cases h), fun r b k o h => (by cases h), fun b h => h⟩

theorem Keep.below {w w' : World} (h : Keep (fun b => b < w.heap.size) w w') : Below w.heap.size w w' := ⟨h.os, h.tape, h.output, h.size, h.block⟩

/-- A law's call: the machine says true, so it returns true, and nothing that was there has turned. -/
theorem law_calls {P : Program} {G : FuncId → Option CE} {m n : Nat} {f : FuncId} {lt : LT} {args : List AV} {us : List Value} {w : World} (hE : EnvS P G) (hm : P.follows .mixedOrders = true) (hG : ∀ f lt, G f = some (.inl lt) → LTok P G m f lt) (hl : LTok P G m f lt)
    (hv : VsRel (Cx.old w) args us) (h : acall P G m n f lt args ⟨[], 0, []⟩ outB = some true) : Calls P f us.toArray w fun e w' => e = .returned (.bool true) ∧ Below w.heap.size w w' := by
  have := acall_sound hE hm hG n f lt hl (fun b => b < w.heap.size) (Cx.old w) ⟨[], 0, []⟩ args us outB true h rfl rfl (old_hr w) (fun b hb => hb) hv
  refine this.mono ?_
  rintro e w' ⟨d, st', v, X', rfl, h1, h2, -, -, -, h3, rfl⟩
  refine ⟨?_, h2.keep.below⟩
  unfold outB at h1
  split at h1
  · rename_i b
    cases h1
    rw [(AVRel.one h3).2]
  · cases h1

def inlAll : FuncId → Option CE := fun _ => some (.inl .leaf)

theorem inlAll_env {P : Program} : EnvS P inlAll := fun f ce h => by cases h; trivial
theorem inlAll_ok {P : Program} {m : Nat} : ∀ f lt, inlAll f = some (.inl lt) → LTok P inlAll m f lt := fun f lt h => by cases h; exact LTok_leaf

end Go.Proofs.Ytgmcefnlcalagaa.AM
