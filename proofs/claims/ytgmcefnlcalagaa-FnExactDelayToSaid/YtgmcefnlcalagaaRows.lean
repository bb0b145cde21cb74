/-
  No cell of these rows narrows 'for every input' (looked for: loops, veiled, ifaces, maps, wideKeys, modest, calm, conditions, laid).
  DERIVED. THE GIVEN ROWS OF THIS SEAT. 3 by the template 'for every input the law returns true; each argument reads behind the call as it read before'; 0 by the template 'total and deterministic' (their statements: YtgmcefnlcalagaaTotals.lean).
  GIVEN WITH THE SEED: the statements are not yours to turn. If you find one false, say at which input.
  Laid BY PROGRAM, IN A SANDBOX (cutbox-rows.mjs): the forced cells as the released guide's own fill.sh prints them over the translation 57f39870f73f9265… (all of the seat's roots in one cut). By AI agents, Wed Nov 11 2026. No macro, syntax, notation, axiom, sorry.
-/
import Derived.Test.YtgmcefnlcalagaaChecked
import GoSem.Claim
import GoSem.ClaimJoined
import GoSem.ClaimMapViews
import Derived.JoinedTies
import Derived.KernelRfl
namespace Go.Proofs.Ytgmcefnlcalagaa
/- THE CELL 'sum', in the pinned program and in every row, IS THE sha256 OF THE DUMP (.gsa) THAT YtgmcefnlcalagaaProg.lean LOADS. Nothing in Lean hashes anything: it is a label: what it is worth is what the hold of that sum in a sandbox is worth. -/
noncomputable def Try.pinned : Pinned := { name := "ytgmcefnlcalagaa", sum := "57f39870f73f9265a93bf0ff04003b7378e03eaa27c2397a425c57af32ab9eaa", checked := Try.checked }
namespace Rows
def none {H : Type} : Left H := { results := [], args := [] }

/-- 'laws.FnExactDelayTo': WHATEVER THE INPUT: true; the input reads as it did. -/
def fnExactDelayToSpec : ChangeSpec := { name := "fnExactDelayTo", fn := fun _ => fun
  | [d1, d2, d3, d4] => { results := [.lit (.bool true)], args := [d1, d2, d3, d4] }
  | _ => none }
def fnExactDelayToRow : OpenClaim := { program := "ytgmcefnlcalagaa", sum := "57f39870f73f9265a93bf0ff04003b7378e03eaa27c2397a425c57af32ab9eaa", func := "loop.example/g01011/laws.FnExactDelayTo", spec := "fnExactDelayTo", unfollowed := true, recurses := true, apart := false }
def FnExactDelayToSaid : Prop := fnExactDelayToRow.holds Try.pinned (OpenSpec.ofChange fnExactDelayToSpec)

/-- ITS FALSE NEIGHBOUR: 'it returns false'. Refute it at one input. -/
def fnExactDelayToWrong : ChangeSpec := { name := "fnExactDelayTo", fn := fun _ => fun
  | [d1, d2, d3, d4] => { results := [.lit (.bool false)], args := [d1, d2, d3, d4] }
  | _ => none }
def FnExactDelayToWrongFalsely : Prop := fnExactDelayToRow.holds Try.pinned (OpenSpec.ofChange fnExactDelayToWrong)

/-- 'laws.FnExactBackupPipes': WHATEVER THE INPUT: true; the input reads as it did. -/
def fnExactBackupPipesSpec : ChangeSpec := { name := "fnExactBackupPipes", fn := fun _ => fun
  | [d1, d2, d3, d4] => { results := [.lit (.bool true)], args := [d1, d2, d3, d4] }
  | _ => none }
def fnExactBackupPipesRow : OpenClaim := { program := "ytgmcefnlcalagaa", sum := "57f39870f73f9265a93bf0ff04003b7378e03eaa27c2397a425c57af32ab9eaa", func := "loop.example/g01011/laws.FnExactBackupPipes", spec := "fnExactBackupPipes", unfollowed := true, recurses := true, apart := false }
def FnExactBackupPipesSaid : Prop := fnExactBackupPipesRow.holds Try.pinned (OpenSpec.ofChange fnExactBackupPipesSpec)

/-- ITS FALSE NEIGHBOUR: 'it returns false'. Refute it at one input. -/
def fnExactBackupPipesWrong : ChangeSpec := { name := "fnExactBackupPipes", fn := fun _ => fun
  | [d1, d2, d3, d4] => { results := [.lit (.bool false)], args := [d1, d2, d3, d4] }
  | _ => none }
def FnExactBackupPipesWrongFalsely : Prop := fnExactBackupPipesRow.holds Try.pinned (OpenSpec.ofChange fnExactBackupPipesWrong)

/-- 'laws.FnExactCutNode': WHATEVER THE INPUT: true; the input reads as it did. -/
def fnExactCutNodeSpec : ChangeSpec := { name := "fnExactCutNode", fn := fun _ => fun
  | [d1, d2, d3, d4, d5] => { results := [.lit (.bool true)], args := [d1, d2, d3, d4, d5] }
  | _ => none }
def fnExactCutNodeRow : OpenClaim := { program := "ytgmcefnlcalagaa", sum := "57f39870f73f9265a93bf0ff04003b7378e03eaa27c2397a425c57af32ab9eaa", func := "loop.example/g01011/laws.FnExactCutNode", spec := "fnExactCutNode", unfollowed := true, recurses := true, apart := false }
def FnExactCutNodeSaid : Prop := fnExactCutNodeRow.holds Try.pinned (OpenSpec.ofChange fnExactCutNodeSpec)

/-- ITS FALSE NEIGHBOUR: 'it returns false'. Refute it at one input. -/
def fnExactCutNodeWrong : ChangeSpec := { name := "fnExactCutNode", fn := fun _ => fun
  | [d1, d2, d3, d4, d5] => { results := [.lit (.bool false)], args := [d1, d2, d3, d4, d5] }
  | _ => none }
def FnExactCutNodeWrongFalsely : Prop := fnExactCutNodeRow.holds Try.pinned (OpenSpec.ofChange fnExactCutNodeWrong)

/- THE SECOND FORM. 'bulk': how many values and letters a reading holds, each counted each time it is reached (what is shared counts as often as it is met; a slice's spare places count too). A statement '..UptoSaid' is the law's where the arguments, and the package variables that the reading takes, are together of bulk at most 1048576: NARROWER than '..Said'. Prove '..Said' where nothing that the law and all that it calls make is longer than what came in: it says more and counts as full. Else prove '..UptoSaid'. A law counts once. -/
mutual
def uptoBulk {H : Type} : DataW H → Nat
  | .lit (.string bytes) => bytes.length + 1
  | .lit _ => 1
  | .nil => 1
  | .ptr d => uptoBulk d + 1
  | .slice elems spare => uptoBulkAll elems + uptoBulkAll spare + 1
  | .agg parts => uptoBulkAll parts + 1
  | .iface _ d => uptoBulk d + 1
  | .map entries => uptoBulkEntries entries + 1
  | .held _ => 1
def uptoBulkAll {H : Type} : List (DataW H) → Nat
  | [] => 0
  | d :: r => uptoBulk d + uptoBulkAll r
def uptoBulkEntries {H : Type} : List (Lit × DataW H) → Nat
  | [] => 0
  | x :: r => uptoBulkEntry x + uptoBulkEntries r
def uptoBulkEntry {H : Type} : Lit × DataW H → Nat
  | (.string bytes, d) => bytes.length + uptoBulk d + 1
  | (_, d) => uptoBulk d + 1
 end
def uptoSmall : (H : Type) → List (DataW H) → Bool := fun _ ds => decide (uptoBulkAll ds ≤ 1048576)
def OpenSpec.upto (s : _root_.Go.ChangeSpec) : _root_.Go.OpenSpec := { _root_.Go.OpenSpec.ofChange s with cond := some uptoSmall }

/-- 'laws.FnExactDelayTo', WHERE WHAT IT READS IS OF BULK AT MOST 1048576: true; the input reads as it did. -/
def fnExactDelayToUptoRow : OpenClaim := { program := "ytgmcefnlcalagaa", sum := "57f39870f73f9265a93bf0ff04003b7378e03eaa27c2397a425c57af32ab9eaa", func := "loop.example/g01011/laws.FnExactDelayTo", spec := "fnExactDelayTo", unfollowed := true, recurses := true, apart := false, narrowed := true }
def FnExactDelayToUptoSaid : Prop := fnExactDelayToUptoRow.holds Try.pinned (OpenSpec.upto fnExactDelayToSpec)

/-- 'laws.FnExactBackupPipes', WHERE WHAT IT READS IS OF BULK AT MOST 1048576: true; the input reads as it did. -/
def fnExactBackupPipesUptoRow : OpenClaim := { program := "ytgmcefnlcalagaa", sum := "57f39870f73f9265a93bf0ff04003b7378e03eaa27c2397a425c57af32ab9eaa", func := "loop.example/g01011/laws.FnExactBackupPipes", spec := "fnExactBackupPipes", unfollowed := true, recurses := true, apart := false, narrowed := true }
def FnExactBackupPipesUptoSaid : Prop := fnExactBackupPipesUptoRow.holds Try.pinned (OpenSpec.upto fnExactBackupPipesSpec)

/-- 'laws.FnExactCutNode', WHERE WHAT IT READS IS OF BULK AT MOST 1048576: true; the input reads as it did. -/
def fnExactCutNodeUptoRow : OpenClaim := { program := "ytgmcefnlcalagaa", sum := "57f39870f73f9265a93bf0ff04003b7378e03eaa27c2397a425c57af32ab9eaa", func := "loop.example/g01011/laws.FnExactCutNode", spec := "fnExactCutNode", unfollowed := true, recurses := true, apart := false, narrowed := true }
def FnExactCutNodeUptoSaid : Prop := fnExactCutNodeUptoRow.holds Try.pinned (OpenSpec.upto fnExactCutNodeSpec)

end Rows
end Go.Proofs.Ytgmcefnlcalagaa
