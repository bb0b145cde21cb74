/- Plain laws of sizes, copies and comparisons, printed by plain.py. No condition. -/
import Derived.Test.YtgmcefnlcalagaaP0
import Derived.Test.YtgmcefnlcalagaaWDelay2
namespace Go.Proofs.Ytgmcefnlcalagaa.W
open Go Go.RowKit Go.Proofs.Ytgmcefnlcalagaa.AM
set_option linter.unusedVariables false
set_option linter.unusedSimpArgs false
set_option maxRecDepth 10000
theorem laws_szInt64S_eq {p : Nat} (hp : maxLen < p) (x : (List Int)) (hw : Ty.wf (.slice (.int .i64)) x) {l : Int} (h0 : 0 ≤ l) (h1 : l ≤ 1048576) : laws_szInt64S_p p x l = some (szf (wt (.slice (.int .i64)) x) l, ()) := by
  unfold laws_szInt64S_p
  have hx : x.length ≤ maxLen := hw.1
  have hm : maxLen = 9223372036854775807 := rfl
  rw [szf_wrap h0 h1 hx]
  by_cases c : l < (x.length : Int)
  · rw [decide_eq_true (show l - (x.length : Int) < 0 by omega), cond_true]
    have := wt_len (e := (.int .i64)) x
    rw [szf_big (by omega)]
  · rw [decide_eq_false (show ¬ l - (x.length : Int) < 0 by omega), cond_false]
    have hz : wt (.slice (.int .i64)) x = x.length + 0 := by
      show x.length + (x.map (wt (.int .i64))).sum = _
      rw [map_zero (f := wt (.int .i64)) (fun y => rfl)]
    rw [hz, szf_small (by omega)]
    congr 2
theorem laws_szPipe_eq {p : Nat} (hp : maxLen < p) (x : (Ty.T TPipe)) (hw : Ty.wf TPipe x) {l : Int} (h0 : 0 ≤ l) (h1 : l ≤ 1048576) : laws_szPipe_p p x l = some (szf (wt TPipe x) l, ()) := by
  have hm : maxLen = 9223372036854775807 := rfl
  have hz : wt TPipe x = (x.1.size + (0 + (0 + (0 + (0 + 0))))) := rfl
  rw [hz]
  unfold laws_szPipe_p
  rw [szf_wrap (l := l) (by omega) (by omega) (show x.1.size ≤ maxLen from hw.1)]
  by_cases c0 : l < ((x.1.size : Nat) : Int)
  · rw [decide_eq_true (show l - ((x.1.size : Nat) : Int) < 0 by omega), cond_true, szf_big (by omega)]
  rw [decide_eq_false (show ¬ l - ((x.1.size : Nat) : Int) < 0 by omega), cond_false]
  rw [szf_small (by omega)]
  exact congrArg (fun z => some (z, ())) (by omega)
theorem laws_szPipeS_eq {p : Nat} (hp : maxLen < p) (x : (List (Ty.T TPipe))) (hw : Ty.wf (.slice TPipe) x) {l : Int} (h0 : 0 ≤ l) (h1 : l ≤ 1048576) : laws_szPipeS_p p x l = some (szf (wt (.slice TPipe) x) l, ()) := by
  unfold laws_szPipeS_p
  have hx : x.length ≤ maxLen := hw.1
  have hm : maxLen = 9223372036854775807 := rfl
  rw [szf_wrap h0 h1 hx]
  by_cases c : l < (x.length : Int)
  · rw [decide_eq_true (show l - (x.length : Int) < 0 by omega), cond_true]
    have := wt_len (e := TPipe) x
    rw [szf_big (by omega)]
  · rw [decide_eq_false (show ¬ l - (x.length : Int) < 0 by omega), cond_false]
    have key := sz_loop (wt TPipe) x (fun q l i => laws_szPipeS_l0_go p x q l i (fun _ o => some (o, ())) (fun o => some (o, ()))) (some ((-1 : Int), ())) (fun l => some (l, ()))
      (fun q l => by simp only [laws_szPipeS_l0_go, laws_szPipeS_l0_r, dlt_end, cond_false])
      (fun q l i y hg a b => by
        have hi := lt_of_get hg
        simp only [laws_szPipeS_l0_go, laws_szPipeS_l0_r, dlt_get hg, cond_true, if_pos (Int.natCast_nonneg i), Int.toNat_natCast, hg, Option.bind_some, laws_szPipe_eq hp y (hw.2 y (List.mem_of_getElem? hg)) a b, wrap_succ (show i < 9223372036854775807 by omega)])
      p (l - x.length) (by omega) (by omega) (by omega)
    refine key.trans ?_
    have hz : wt (.slice TPipe) x = x.length + (x.map (wt TPipe)).sum := rfl
    rw [hz]
    split
    · rw [szf_small (by omega)]; congr 2; omega
    · rw [szf_big (by omega)]
theorem laws_szNetwork_eq {p : Nat} (hp : maxLen < p) (x : (Ty.T TNetwork)) (hw : Ty.wf TNetwork x) {l : Int} (h0 : 0 ≤ l) (h1 : l ≤ 1048576) : laws_szNetwork_p p x l = some (szf (wt TNetwork x) l, ()) := by
  have hm : maxLen = 9223372036854775807 := rfl
  have hz : wt TNetwork x = (wt (.slice (.int .i64)) x.1 + wt (.slice TPipe) x.2) := rfl
  rw [hz]
  unfold laws_szNetwork_p
  rw [laws_szInt64S_eq hp x.1 hw.1 (l := l) (by omega) (by omega)]
  simp only [Option.bind_some]
  by_cases c0 : l < ((wt (.slice (.int .i64)) x.1 : Nat) : Int)
  · rw [szf_big c0, decide_eq_true (show (-1 : Int) < 0 by omega), cond_true, szf_big (by omega)]
  rw [szf_small (l := l) (by omega), decide_eq_false (show ¬ l - ((wt (.slice (.int .i64)) x.1 : Nat) : Int) < 0 by omega), cond_false]
  rw [laws_szPipeS_eq hp x.2 hw.2 (l := (l - ((wt (.slice (.int .i64)) x.1 : Nat) : Int))) (by omega) (by omega)]
  simp only [Option.bind_some]
  by_cases c1 : (l - ((wt (.slice (.int .i64)) x.1 : Nat) : Int)) < ((wt (.slice TPipe) x.2 : Nat) : Int)
  · rw [szf_big c1, decide_eq_true (show (-1 : Int) < 0 by omega), cond_true, szf_big (by omega)]
  rw [szf_small (l := (l - ((wt (.slice (.int .i64)) x.1 : Nat) : Int))) (by omega), decide_eq_false (show ¬ (l - ((wt (.slice (.int .i64)) x.1 : Nat) : Int)) - ((wt (.slice TPipe) x.2 : Nat) : Int) < 0 by omega), cond_false]
  rw [szf_small (by omega)]
  exact congrArg (fun z => some (z, ())) (by omega)
theorem laws_toInt64S_eq {p : Nat} (hp : maxLen < p) (x : (List Int)) (hw : wt (.slice (.int .i64)) x ≤ 1048576) : laws_toInt64S_p p x = some (x, ()) := by
  unfold laws_toInt64S_p
  have hm : maxLen = 9223372036854775807 := rfl
  have hl := wt_len (e := (.int .i64)) x
  rw [if_pos (by refine ⟨?_, ?_, ?_, ?_⟩ <;> omega), Int.toNat_natCast]
  have key := to_loop x id (Ty.zero (.int .i64)) (fun q i out => laws_toInt64S_l0_go p x q i out (fun o => some (o, ()))) (fun o => some (o, ()))
    (fun q out => by simp only [laws_toInt64S_l0_go, laws_toInt64S_l0_r, dlt_end, cond_false])
    (fun q i y out hg ho => by
      have hi := lt_of_get hg
      simp only [laws_toInt64S_l0_go, laws_toInt64S_l0_r, dlt_get hg, cond_true, if_pos (Int.natCast_nonneg i), Int.toNat_natCast, hg, Option.bind_some, if_pos (show 0 ≤ (i : Int) ∧ (i : Int) < (out.length : Int) by omega), wrap_succ (show i < 9223372036854775807 by omega), id])
    p (by omega)
  refine key.trans ?_
  rw [List.map_id]
theorem laws_toPipe_eq {p : Nat} (hp : maxLen < p) (x : (Ty.T TPipe)) (hw : wt TPipe x ≤ 1048576) : laws_toPipe_p p x = some (x, ()) := by
  rfl
theorem laws_toPipeS_eq {p : Nat} (hp : maxLen < p) (x : (List (Ty.T TPipe))) (hw : wt (.slice TPipe) x ≤ 1048576) : laws_toPipeS_p p x = some (x, ()) := by
  unfold laws_toPipeS_p
  have hm : maxLen = 9223372036854775807 := rfl
  have hl := wt_len (e := TPipe) x
  rw [if_pos (by refine ⟨?_, ?_, ?_, ?_⟩ <;> omega), Int.toNat_natCast]
  have key := to_loop x id (Ty.zero TPipe) (fun q i out => laws_toPipeS_l0_go p x q i out (fun o => some (o, ()))) (fun o => some (o, ()))
    (fun q out => by simp only [laws_toPipeS_l0_go, laws_toPipeS_l0_r, dlt_end, cond_false])
    (fun q i y out hg ho => by
      have hi := lt_of_get hg
      simp only [laws_toPipeS_l0_go, laws_toPipeS_l0_r, dlt_get hg, cond_true, if_pos (Int.natCast_nonneg i), Int.toNat_natCast, hg, Option.bind_some, laws_toPipe_eq hp y (by have := wt_mem (e := TPipe) hg; omega), if_pos (show 0 ≤ (i : Int) ∧ (i : Int) < (out.length : Int) by omega), wrap_succ (show i < 9223372036854775807 by omega), id])
    p (by omega)
  refine key.trans ?_
  rw [List.map_id]
theorem laws_toNetwork_eq {p : Nat} (hp : maxLen < p) (x : (Ty.T TNetwork)) (hw : wt TNetwork x ≤ 1048576) : laws_toNetwork_p p x = some (x, ()) := by
  have hz : wt TNetwork x = (wt (.slice (.int .i64)) x.1 + wt (.slice TPipe) x.2) := rfl
  rw [hz] at hw
  simp only [laws_toNetwork_p, laws_toInt64S_eq hp x.1 (by omega), laws_toPipeS_eq hp x.2 (by omega), Option.bind_some]
theorem laws_eqInt64S_eq {p : Nat} (hp : maxLen < p) (x y : (List Int)) (hw : wt (.slice (.int .i64)) x ≤ 1048576) : laws_eqInt64S_p p x y = some (tbeq (.slice (.int .i64)) x y, ()) := by
  unfold laws_eqInt64S_p
  have hm : maxLen = 9223372036854775807 := rfl
  have hl := wt_len (e := (.int .i64)) x
  show _ = some (lbeq (tbeq (.int .i64)) x y, ())
  cases hn : ((x.length : Int) != (y.length : Int)) with
  | true => rw [cond_true, len_ne _ hn]
  | false =>
    rw [cond_false]
    have hlen := len_eq hn
    have key := eq_loop x y (tbeq (.int .i64)) (fun q i => laws_eqInt64S_l0_go p x y q i (fun o => some (o, ())) (fun _ => some (true, ()))) (some (false, ())) (some (true, ())) hlen
      (fun q => by simp only [laws_eqInt64S_l0_go, laws_eqInt64S_l0_r, dlt_end, cond_false])
      (fun q i a b hg hg2 => by
        have hi := lt_of_get hg
        simp only [laws_eqInt64S_l0_go, laws_eqInt64S_l0_r, dlt_get hg, cond_true, if_pos (Int.natCast_nonneg i), Int.toNat_natCast, hg, hg2, Option.bind_some, wrap_succ (show i < 9223372036854775807 by omega)]
        exact cond_not _ _ _)
      p (by omega)
    refine key.trans ?_
    cases lbeq (tbeq (.int .i64)) x y <;> rfl
theorem laws_eqPipe_eq {p : Nat} (hp : maxLen < p) (x y : (Ty.T TPipe)) (hw : wt TPipe x ≤ 1048576) : laws_eqPipe_p p x y = some (tbeq TPipe x y, ()) := by
  unfold laws_eqPipe_p
  refine Eq.trans (eq_seq _ _ _ (eq_seq _ _ _ (eq_seq _ _ _ (eq_seq _ _ _ (eq_seq _ _ _ (eq_seq _ _ _ rfl)))))) ?_
  simp only [TPipe, tbeq, Bool.and_true]
theorem laws_eqPipeS_eq {p : Nat} (hp : maxLen < p) (x y : (List (Ty.T TPipe))) (hw : wt (.slice TPipe) x ≤ 1048576) : laws_eqPipeS_p p x y = some (tbeq (.slice TPipe) x y, ()) := by
  unfold laws_eqPipeS_p
  have hm : maxLen = 9223372036854775807 := rfl
  have hl := wt_len (e := TPipe) x
  show _ = some (lbeq (tbeq TPipe) x y, ())
  cases hn : ((x.length : Int) != (y.length : Int)) with
  | true => rw [cond_true, len_ne _ hn]
  | false =>
    rw [cond_false]
    have hlen := len_eq hn
    have key := eq_loop x y (tbeq TPipe) (fun q i => laws_eqPipeS_l0_go p x y q i (fun o => some (o, ())) (fun _ => some (true, ()))) (some (false, ())) (some (true, ())) hlen
      (fun q => by simp only [laws_eqPipeS_l0_go, laws_eqPipeS_l0_r, dlt_end, cond_false])
      (fun q i a b hg hg2 => by
        have hi := lt_of_get hg
        simp only [laws_eqPipeS_l0_go, laws_eqPipeS_l0_r, dlt_get hg, cond_true, if_pos (Int.natCast_nonneg i), Int.toNat_natCast, hg, hg2, Option.bind_some, laws_eqPipe_eq hp a b (by have := wt_mem (e := TPipe) hg; omega), wrap_succ (show i < 9223372036854775807 by omega)]
        cases tbeq TPipe a b <;> rfl)
      p (by omega)
    refine key.trans ?_
    cases lbeq (tbeq TPipe) x y <;> rfl
theorem laws_eqNetwork_eq {p : Nat} (hp : maxLen < p) (x y : (Ty.T TNetwork)) (hw : wt TNetwork x ≤ 1048576) : laws_eqNetwork_p p x y = some (tbeq TNetwork x y, ()) := by
  have hz : wt TNetwork x = (wt (.slice (.int .i64)) x.1 + wt (.slice TPipe) x.2) := rfl
  rw [hz] at hw
  unfold laws_eqNetwork_p
  simp only [laws_eqInt64S_eq hp x.1 y.1 (by omega), laws_eqPipeS_eq hp x.2 y.2 (by omega), Option.bind_some]
  refine Eq.trans (eq_seq _ _ _ (eq_seq _ _ _ rfl)) ?_
  simp only [TNetwork, tbeq, Bool.and_true]
end Go.Proofs.Ytgmcefnlcalagaa.W
