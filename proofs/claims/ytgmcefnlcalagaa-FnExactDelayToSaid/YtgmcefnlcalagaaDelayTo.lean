/- 'FnExactDelayTo' returns true whatever the input, and every argument reads behind the call as before. No condition. -/
import Derived.Test.YtgmcefnlcalagaaRows
import Derived.WalkKit
import Derived.ProofKit
import Derived.OpenShut
import Derived.Test.YtgmcefnlcalagaaPDelay
namespace Go.Proofs.Ytgmcefnlcalagaa.fnExactDelayTo
open Go.ChangeShapes Go.WideShapes Go.ChangeAt Go.RowKit
set_option linter.unusedVariables false
set_option maxRecDepth 100000

theorem own : ownKnob Try.prog.godebug = none := by kernel_rfl

theorem lifted (os : Os) (started : os.Started) (H : Type) (enc : TypeId × Value → H) :
    ReturnsInHanded {} Try.checked os 3 .any (Rows.fnExactDelayToSpec.pre6 enc Try.prog Try.f3 Rows.fnExactDelayToRow.domain false) (Rows.fnExactDelayToSpec.post enc Try.prog Try.f3 false true false false) := by
  refine returnsInHanded_of_change (C := Try.checked) own started (by kernel_rfl) Try.func3
    (ChangeSpec.witness6 (enc := enc) (C := Try.checked) false ⟨#[], #[.agg #[.slice none 0 0, .slice none 0 0], .int .i64 0, .slice none 0 0, .int .i64 0], []⟩ 12 (by kernel_rfl) (by kernel_rfl) (by kernel_rfl) (by kernel_rfl)) ?_
  intro W base args ds gs before hval0 hW hcnd _
  have hval : ∀ (j : Nat) t v, Try.f3.params[j]? = some t → args[j]? = some v → Value.okWide Try.prog W .any base t v := hval0
  have hW' := hW
  obtain ⟨p, q, hA0, hV, rfl, hfz, hnd⟩ := hW
  have hA : DataW.TrodAll enc Try.prog W 0 (fun _ => true) true [25, 2, 22, 2] args.toList ds p := hA0
  obtain ⟨rfl, rfl⟩ := trodVars_none hV
  obtain ⟨x, hx, hwf, hlen⟩ := AM.args_tree (τs := [Go.Proofs.Ytgmcefnlcalagaa.W.TNetwork, (.int .i64), (.slice (.int .i64)), (.int .i64)]) (n := 12) (by kernel_rfl) hA (fun j t v h1 h2 => hval j t v (by
    have e : Try.f3.params = #[25, 2, 22, 2] := by kernel_rfl
    rw [e]; simpa using h1) (by simpa using h2))
  obtain ⟨a0, a1, a2, a3, _⟩ := x
  obtain ⟨w0, w1, w2, w3, _⟩ := hwf
  match ds, hlen, hA, hA0, hW' with
  | [d1, d2, d3, d4], _, hA, hA0, hW' =>
  have hc := Go.Proofs.Ytgmcefnlcalagaa.W.laws_FnExactDelayTo_calls (p := maxLen + 1) a0 a1 a2 a3 hx (Go.Proofs.Ytgmcefnlcalagaa.W.FnExactDelayTo_law a0 a1 a2 a3 w0 w1 w2 w3)
  rw [Array.toArray_toList] at hc
  refine hc.mono fun e W' ⟨he, hg⟩ => ?_
  subst he
  exact ⟨_, rfl, _, _, _, [], p, [], hW', trodAll_cons_mk (shut_bool Try.underlying4 _) trodAll_mk0, AM.args_back (by kernel_rfl) hg (by kernel_rfl) hA, rfl, hg.frame _, fun h => (by cases h)⟩

theorem over : Rows.fnExactDelayToRow.holds Try.pinned (OpenSpec.ofChange Rows.fnExactDelayToSpec) :=
  OpenClaim.holds_of_wide 3 Try.f3 rfl rfl rfl rfl rfl rfl rfl ⟨rfl, rfl, rfl, rfl, rfl⟩ rfl rfl rfl rfl rfl (by kernel_rfl) Try.func3 (by kernel_rfl)
    (of_decide_eq_true (by kernel_rfl)) (by unfold Func.isWrapper; first | (rw [if_pos (by decide +kernel)]; kernel_rfl) | (rw [if_neg (by decide +kernel)]; exact ⟨rfl, rfl⟩))
    (fun os started H enc _ => lifted os started H enc)

theorem proved : Rows.FnExactDelayToSaid := over
#print axioms proved
end Go.Proofs.Ytgmcefnlcalagaa.fnExactDelayTo
