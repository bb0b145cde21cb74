/- 'FnExactValidDesk' returns true whatever the input, and every argument reads behind the call as before. No condition. -/
import Derived.Test.YtgmcefnlcalagaaGreatRows
import Derived.WalkKit
import Derived.ProofKit
import Derived.OpenShut
import Derived.Test.YtgmcefnlcalagaaGreatPValidDesk
namespace Go.Proofs.YtgmcefnlcalagaaGreat.fnExactValidDesk
open Go.ChangeShapes Go.WideShapes Go.ChangeAt Go.RowKit
set_option linter.unusedVariables false
set_option maxRecDepth 100000

theorem own : ownKnob Tryz.prog.godebug = none := by kernel_rfl

theorem lifted (os : Os) (started : os.Started) (H : Type) (enc : TypeId × Value → H) :
    ReturnsInHanded {} Tryz.checked os 3 .any (Rows.fnExactValidDeskSpec.pre6 enc Tryz.prog Tryz.f3 Rows.fnExactValidDeskRow.domain false) (Rows.fnExactValidDeskSpec.post enc Tryz.prog Tryz.f3 false true false false) := by
  refine returnsInHanded_of_change (C := Tryz.checked) own started (by kernel_rfl) Tryz.func3
    (ChangeSpec.witness6 (enc := enc) (C := Tryz.checked) false ⟨#[], #[.agg #[.slice none 0 0, .slice none 0 0, .slice none 0 0, .slice none 0 0, .slice none 0 0, .slice none 0 0, .int .i64 0, .int .i64 0, .int .i64 0, .slice none 0 0, .slice none 0 0, .slice none 0 0, .slice none 0 0]], []⟩ 12 (by kernel_rfl) (by kernel_rfl) (by kernel_rfl) (by kernel_rfl)) ?_
  intro W base args ds gs before hval0 hW hcnd _
  have hval : ∀ (j : Nat) t v, Tryz.f3.params[j]? = some t → args[j]? = some v → Value.okWide Tryz.prog W .any base t v := hval0
  have hW' := hW
  obtain ⟨p, q, hA0, hV, rfl, hfz, hnd⟩ := hW
  have hA : DataW.TrodAll enc Tryz.prog W 0 (fun _ => true) true [36] args.toList ds p := hA0
  obtain ⟨rfl, rfl⟩ := trodVars_none hV
  obtain ⟨x, hx, hwf, hlen⟩ := AM.args_tree (τs := [Go.Proofs.YtgmcefnlcalagaaGreat.W.TDesk]) (n := 12) (by kernel_rfl) hA (fun j t v h1 h2 => hval j t v (by
    have e : Tryz.f3.params = #[36] := by kernel_rfl
    rw [e]; simpa using h1) (by simpa using h2))
  obtain ⟨a0, _⟩ := x
  obtain ⟨w0, _⟩ := hwf
  match ds, hlen, hA, hA0, hW' with
  | [d1], _, hA, hA0, hW' =>
  have hc := Go.Proofs.YtgmcefnlcalagaaGreat.W.laws_FnExactValidDesk_calls (p := maxLen + 1) a0 hx (Go.Proofs.YtgmcefnlcalagaaGreat.W.FnExactValidDesk_law a0 w0)
  rw [Array.toArray_toList] at hc
  refine hc.mono fun e W' ⟨he, hg⟩ => ?_
  subst he
  exact ⟨_, rfl, _, _, _, [], p, [], hW', trodAll_cons_mk (shut_bool Tryz.underlying4 _) trodAll_mk0, AM.args_back (by kernel_rfl) hg (by kernel_rfl) hA, rfl, hg.frame _, fun h => (by cases h)⟩

theorem over : Rows.fnExactValidDeskRow.holds Tryz.pinned (OpenSpec.ofChange Rows.fnExactValidDeskSpec) :=
  OpenClaim.holds_of_wide 3 Tryz.f3 rfl rfl rfl rfl rfl rfl rfl ⟨rfl, rfl, rfl, rfl, rfl⟩ rfl rfl rfl rfl rfl (by kernel_rfl) Tryz.func3 (by kernel_rfl)
    (of_decide_eq_true (by kernel_rfl)) (by unfold Func.isWrapper; first | (rw [if_pos (by decide +kernel)]; kernel_rfl) | (rw [if_neg (by decide +kernel)]; exact ⟨rfl, rfl⟩))
    (fun os started H enc _ => lifted os started H enc)

theorem proved : Rows.FnExactValidDeskSaid := over
#print axioms proved
end Go.Proofs.YtgmcefnlcalagaaGreat.fnExactValidDesk
