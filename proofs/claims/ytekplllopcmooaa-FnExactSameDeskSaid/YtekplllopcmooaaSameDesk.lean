/- 'FnExactSameDesk' returns true whatever the input, and every argument reads behind the call as before. No condition. -/
import Derived.Test.YtekplllopcmooaaRows
import Derived.WalkKit
import Derived.ProofKit
import Derived.OpenShut
import Derived.Test.YtekplllopcmooaaPSameDesk
namespace Go.Proofs.Ytekplllopcmooaa.fnExactSameDesk
open Go.ChangeShapes Go.WideShapes Go.ChangeAt Go.RowKit
set_option linter.unusedVariables false
set_option maxRecDepth 100000

theorem own : ownKnob Try.prog.godebug = none := by kernel_rfl

theorem lifted (os : Os) (started : os.Started) (H : Type) (enc : TypeId × Value → H) :
    ReturnsInHanded {} Try.checked os 4 .any (Rows.fnExactSameDeskSpec.pre6 enc Try.prog Try.f4 Rows.fnExactSameDeskRow.domain false) (Rows.fnExactSameDeskSpec.post enc Try.prog Try.f4 false true false false) := by
  refine returnsInHanded_of_change (C := Try.checked) own started (by kernel_rfl) Try.func4
    (ChangeSpec.witness6 (enc := enc) (C := Try.checked) false ⟨#[], #[.agg #[.slice none 0 0, .slice none 0 0, .slice none 0 0, .slice none 0 0, .slice none 0 0, .slice none 0 0, .int .i64 0, .int .i64 0, .int .i64 0, .slice none 0 0, .slice none 0 0, .slice none 0 0, .slice none 0 0], .agg #[.slice none 0 0, .slice none 0 0, .slice none 0 0, .slice none 0 0, .slice none 0 0, .slice none 0 0, .int .i64 0, .int .i64 0, .int .i64 0, .slice none 0 0, .slice none 0 0, .slice none 0 0, .slice none 0 0]], []⟩ 12 (by kernel_rfl) (by kernel_rfl) (by kernel_rfl) (by kernel_rfl)) ?_
  intro W base args ds gs before hval0 hW hcnd _
  have hval : ∀ (j : Nat) t v, Try.f4.params[j]? = some t → args[j]? = some v → Value.okWide Try.prog W .any base t v := hval0
  have hW' := hW
  obtain ⟨p, q, hA0, hV, rfl, hfz, hnd⟩ := hW
  have hA : DataW.TrodAll enc Try.prog W 0 (fun _ => true) true [53, 53] args.toList ds p := hA0
  obtain ⟨rfl, rfl⟩ := trodVars_none hV
  obtain ⟨x, hx, hwf, hlen⟩ := AM.args_tree (τs := [Go.Proofs.Ytekplllopcmooaa.W.TDesk, Go.Proofs.Ytekplllopcmooaa.W.TDesk]) (n := 12) (by kernel_rfl) hA (fun j t v h1 h2 => hval j t v (by
    have e : Try.f4.params = #[53, 53] := by kernel_rfl
    rw [e]; simpa using h1) (by simpa using h2))
  obtain ⟨a0, a1, _⟩ := x
  obtain ⟨w0, w1, _⟩ := hwf
  match ds, hlen, hA, hA0, hW' with
  | [d1, d2], _, hA, hA0, hW' =>
  have hc := Go.Proofs.Ytekplllopcmooaa.W.laws_FnExactSameDesk_calls (p := maxLen + 1) a0 a1 hx (Go.Proofs.Ytekplllopcmooaa.W.FnExactSameDesk_law a0 a1 w0 w1)
  rw [Array.toArray_toList] at hc
  refine hc.mono fun e W' ⟨he, hg⟩ => ?_
  subst he
  exact ⟨_, rfl, _, _, _, [], p, [], hW', trodAll_cons_mk (shut_bool Try.underlying4 _) trodAll_mk0, AM.args_back (by kernel_rfl) hg (by kernel_rfl) hA, rfl, hg.frame _, fun h => (by cases h)⟩

theorem over : Rows.fnExactSameDeskRow.holds Try.pinned (OpenSpec.ofChange Rows.fnExactSameDeskSpec) :=
  OpenClaim.holds_of_wide 4 Try.f4 rfl rfl rfl rfl rfl rfl rfl ⟨rfl, rfl, rfl, rfl, rfl⟩ rfl rfl rfl rfl rfl (by kernel_rfl) Try.func4 (by kernel_rfl)
    (of_decide_eq_true (by kernel_rfl)) (by unfold Func.isWrapper; first | (rw [if_pos (by decide +kernel)]; kernel_rfl) | (rw [if_neg (by decide +kernel)]; exact ⟨rfl, rfl⟩))
    (fun os started H enc _ => lifted os started H enc)

theorem proved : Rows.FnExactSameDeskSaid := over
#print axioms proved
end Go.Proofs.Ytekplllopcmooaa.fnExactSameDesk
