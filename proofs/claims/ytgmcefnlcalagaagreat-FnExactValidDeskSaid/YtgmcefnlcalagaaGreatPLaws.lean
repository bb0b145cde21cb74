/- Plain laws of sizes, copies and comparisons, printed by plain.py. No condition. -/
import Derived.Test.YtgmcefnlcalagaaGreatP0
import Derived.Test.YtgmcefnlcalagaaGreatWVD3
namespace Go.Proofs.YtgmcefnlcalagaaGreat.W
open Go Go.RowKit Go.Proofs.YtgmcefnlcalagaaGreat.AM
set_option linter.unusedVariables false
set_option linter.unusedSimpArgs false
set_option maxRecDepth 10000
theorem laws_szInt64S_eq {p : Nat} (hp : maxLen < p) (x : (List Int)) (hw : Ty.wf (.slice (.int .i64)) x) {l : Int} (h0 : 0 ≤ l) (h1 : l ≤ 1048576) : laws_szInt64S_p p x l = some (szf (wt (.slice (.int .i64)) x) l, ()) := by
  unfold laws_szInt64S_p
  have hx : x.length ≤ maxLen := hw.1
  have hm : maxLen = 9223372036854775807 := rfl
  rw [szf_wrap h0 h1 hx]
  by_cases c : l < (x.length : Int)
  · rw [decide_eq_true (show l - (x.length : Int) < 0 by omega), cond_true]
    have := wt_len (e := (.int .i64)) x
    rw [szf_big (by omega)]
  · rw [decide_eq_false (show ¬ l - (x.length : Int) < 0 by omega), cond_false]
    have hz : wt (.slice (.int .i64)) x = x.length + 0 := by
      show x.length + (x.map (wt (.int .i64))).sum = _
      rw [map_zero (f := wt (.int .i64)) (fun y => rfl)]
    rw [hz, szf_small (by omega)]
    congr 2
theorem laws_szPipe_eq {p : Nat} (hp : maxLen < p) (x : (Ty.T TPipe)) (hw : Ty.wf TPipe x) {l : Int} (h0 : 0 ≤ l) (h1 : l ≤ 1048576) : laws_szPipe_p p x l = some (szf (wt TPipe x) l, ()) := by
  have hm : maxLen = 9223372036854775807 := rfl
  have hz : wt TPipe x = (x.1.size + (0 + (0 + (0 + (0 + 0))))) := rfl
  rw [hz]
  unfold laws_szPipe_p
  rw [szf_wrap (l := l) (by omega) (by omega) (show x.1.size ≤ maxLen from hw.1)]
  by_cases c0 : l < ((x.1.size : Nat) : Int)
  · rw [decide_eq_true (show l - ((x.1.size : Nat) : Int) < 0 by omega), cond_true, szf_big (by omega)]
  rw [decide_eq_false (show ¬ l - ((x.1.size : Nat) : Int) < 0 by omega), cond_false]
  rw [szf_small (by omega)]
  exact congrArg (fun z => some (z, ())) (by omega)
theorem laws_szPipeS_eq {p : Nat} (hp : maxLen < p) (x : (List (Ty.T TPipe))) (hw : Ty.wf (.slice TPipe) x) {l : Int} (h0 : 0 ≤ l) (h1 : l ≤ 1048576) : laws_szPipeS_p p x l = some (szf (wt (.slice TPipe) x) l, ()) := by
  unfold laws_szPipeS_p
  have hx : x.length ≤ maxLen := hw.1
  have hm : maxLen = 9223372036854775807 := rfl
  rw [szf_wrap h0 h1 hx]
  by_cases c : l < (x.length : Int)
  · rw [decide_eq_true (show l - (x.length : Int) < 0 by omega), cond_true]
    have := wt_len (e := TPipe) x
    rw [szf_big (by omega)]
  · rw [decide_eq_false (show ¬ l - (x.length : Int) < 0 by omega), cond_false]
    have key := sz_loop (wt TPipe) x (fun q l i => laws_szPipeS_l0_go p x q l i (fun _ o => some (o, ())) (fun o => some (o, ()))) (some ((-1 : Int), ())) (fun l => some (l, ()))
      (fun q l => by simp only [laws_szPipeS_l0_go, laws_szPipeS_l0_r, dlt_end, cond_false])
      (fun q l i y hg a b => by
        have hi := lt_of_get hg
        simp only [laws_szPipeS_l0_go, laws_szPipeS_l0_r, dlt_get hg, cond_true, if_pos (Int.natCast_nonneg i), Int.toNat_natCast, hg, Option.bind_some, laws_szPipe_eq hp y (hw.2 y (List.mem_of_getElem? hg)) a b, wrap_succ (show i < 9223372036854775807 by omega)])
      p (l - x.length) (by omega) (by omega) (by omega)
    refine key.trans ?_
    have hz : wt (.slice TPipe) x = x.length + (x.map (wt TPipe)).sum := rfl
    rw [hz]
    split
    · rw [szf_small (by omega)]; congr 2; omega
    · rw [szf_big (by omega)]
theorem laws_szNetwork_eq {p : Nat} (hp : maxLen < p) (x : (Ty.T TNetwork)) (hw : Ty.wf TNetwork x) {l : Int} (h0 : 0 ≤ l) (h1 : l ≤ 1048576) : laws_szNetwork_p p x l = some (szf (wt TNetwork x) l, ()) := by
  have hm : maxLen = 9223372036854775807 := rfl
  have hz : wt TNetwork x = (wt (.slice (.int .i64)) x.1 + wt (.slice TPipe) x.2) := rfl
  rw [hz]
  unfold laws_szNetwork_p
  rw [laws_szInt64S_eq hp x.1 hw.1 (l := l) (by omega) (by omega)]
  simp only [Option.bind_some]
  by_cases c0 : l < ((wt (.slice (.int .i64)) x.1 : Nat) : Int)
  · rw [szf_big c0, decide_eq_true (show (-1 : Int) < 0 by omega), cond_true, szf_big (by omega)]
  rw [szf_small (l := l) (by omega), decide_eq_false (show ¬ l - ((wt (.slice (.int .i64)) x.1 : Nat) : Int) < 0 by omega), cond_false]
  rw [laws_szPipeS_eq hp x.2 hw.2 (l := (l - ((wt (.slice (.int .i64)) x.1 : Nat) : Int))) (by omega) (by omega)]
  simp only [Option.bind_some]
  by_cases c1 : (l - ((wt (.slice (.int .i64)) x.1 : Nat) : Int)) < ((wt (.slice TPipe) x.2 : Nat) : Int)
  · rw [szf_big c1, decide_eq_true (show (-1 : Int) < 0 by omega), cond_true, szf_big (by omega)]
  rw [szf_small (l := (l - ((wt (.slice (.int .i64)) x.1 : Nat) : Int))) (by omega), decide_eq_false (show ¬ (l - ((wt (.slice (.int .i64)) x.1 : Nat) : Int)) - ((wt (.slice TPipe) x.2 : Nat) : Int) < 0 by omega), cond_false]
  rw [szf_small (by omega)]
  exact congrArg (fun z => some (z, ())) (by omega)
theorem laws_szValve_eq {p : Nat} (hp : maxLen < p) (x : (Ty.T TValve)) (hw : Ty.wf TValve x) {l : Int} (h0 : 0 ≤ l) (h1 : l ≤ 1048576) : laws_szValve_p p x l = some (szf (wt TValve x) l, ()) := by
  have hm : maxLen = 9223372036854775807 := rfl
  have hz : wt TValve x = (x.1.size + (x.2.1.size + 0)) := rfl
  rw [hz]
  unfold laws_szValve_p
  rw [szf_wrap (l := l) (by omega) (by omega) (show x.1.size ≤ maxLen from hw.1)]
  by_cases c0 : l < ((x.1.size : Nat) : Int)
  · rw [decide_eq_true (show l - ((x.1.size : Nat) : Int) < 0 by omega), cond_true, szf_big (by omega)]
  rw [decide_eq_false (show ¬ l - ((x.1.size : Nat) : Int) < 0 by omega), cond_false]
  rw [szf_wrap (l := (l - ((x.1.size : Nat) : Int))) (by omega) (by omega) (show x.2.1.size ≤ maxLen from hw.2.1)]
  by_cases c1 : (l - ((x.1.size : Nat) : Int)) < ((x.2.1.size : Nat) : Int)
  · rw [decide_eq_true (show (l - ((x.1.size : Nat) : Int)) - ((x.2.1.size : Nat) : Int) < 0 by omega), cond_true, szf_big (by omega)]
  rw [decide_eq_false (show ¬ (l - ((x.1.size : Nat) : Int)) - ((x.2.1.size : Nat) : Int) < 0 by omega), cond_false]
  rw [szf_small (by omega)]
  exact congrArg (fun z => some (z, ())) (by omega)
theorem laws_szValveS_eq {p : Nat} (hp : maxLen < p) (x : (List (Ty.T TValve))) (hw : Ty.wf (.slice TValve) x) {l : Int} (h0 : 0 ≤ l) (h1 : l ≤ 1048576) : laws_szValveS_p p x l = some (szf (wt (.slice TValve) x) l, ()) := by
  unfold laws_szValveS_p
  have hx : x.length ≤ maxLen := hw.1
  have hm : maxLen = 9223372036854775807 := rfl
  rw [szf_wrap h0 h1 hx]
  by_cases c : l < (x.length : Int)
  · rw [decide_eq_true (show l - (x.length : Int) < 0 by omega), cond_true]
    have := wt_len (e := TValve) x
    rw [szf_big (by omega)]
  · rw [decide_eq_false (show ¬ l - (x.length : Int) < 0 by omega), cond_false]
    have key := sz_loop (wt TValve) x (fun q l i => laws_szValveS_l0_go p x q l i (fun _ o => some (o, ())) (fun o => some (o, ()))) (some ((-1 : Int), ())) (fun l => some (l, ()))
      (fun q l => by simp only [laws_szValveS_l0_go, laws_szValveS_l0_r, dlt_end, cond_false])
      (fun q l i y hg a b => by
        have hi := lt_of_get hg
        simp only [laws_szValveS_l0_go, laws_szValveS_l0_r, dlt_get hg, cond_true, if_pos (Int.natCast_nonneg i), Int.toNat_natCast, hg, Option.bind_some, laws_szValve_eq hp y (hw.2 y (List.mem_of_getElem? hg)) a b, wrap_succ (show i < 9223372036854775807 by omega)])
      p (l - x.length) (by omega) (by omega) (by omega)
    refine key.trans ?_
    have hz : wt (.slice TValve) x = x.length + (x.map (wt TValve)).sum := rfl
    rw [hz]
    split
    · rw [szf_small (by omega)]; congr 2; omega
    · rw [szf_big (by omega)]
theorem laws_szInt64SS_eq {p : Nat} (hp : maxLen < p) (x : (List (List Int))) (hw : Ty.wf (.slice (.slice (.int .i64))) x) {l : Int} (h0 : 0 ≤ l) (h1 : l ≤ 1048576) : laws_szInt64SS_p p x l = some (szf (wt (.slice (.slice (.int .i64))) x) l, ()) := by
  unfold laws_szInt64SS_p
  have hx : x.length ≤ maxLen := hw.1
  have hm : maxLen = 9223372036854775807 := rfl
  rw [szf_wrap h0 h1 hx]
  by_cases c : l < (x.length : Int)
  · rw [decide_eq_true (show l - (x.length : Int) < 0 by omega), cond_true]
    have := wt_len (e := (.slice (.int .i64))) x
    rw [szf_big (by omega)]
  · rw [decide_eq_false (show ¬ l - (x.length : Int) < 0 by omega), cond_false]
    have key := sz_loop (wt (.slice (.int .i64))) x (fun q l i => laws_szInt64SS_l0_go p x q l i (fun _ o => some (o, ())) (fun o => some (o, ()))) (some ((-1 : Int), ())) (fun l => some (l, ()))
      (fun q l => by simp only [laws_szInt64SS_l0_go, laws_szInt64SS_l0_r, dlt_end, cond_false])
      (fun q l i y hg a b => by
        have hi := lt_of_get hg
        simp only [laws_szInt64SS_l0_go, laws_szInt64SS_l0_r, dlt_get hg, cond_true, if_pos (Int.natCast_nonneg i), Int.toNat_natCast, hg, Option.bind_some, laws_szInt64S_eq hp y (hw.2 y (List.mem_of_getElem? hg)) a b, wrap_succ (show i < 9223372036854775807 by omega)])
      p (l - x.length) (by omega) (by omega) (by omega)
    refine key.trans ?_
    have hz : wt (.slice (.slice (.int .i64))) x = x.length + (x.map (wt (.slice (.int .i64)))).sum := rfl
    rw [hz]
    split
    · rw [szf_small (by omega)]; congr 2; omega
    · rw [szf_big (by omega)]
theorem laws_szPump_eq {p : Nat} (hp : maxLen < p) (x : (Ty.T TPump)) (hw : Ty.wf TPump x) {l : Int} (h0 : 0 ≤ l) (h1 : l ≤ 1048576) : laws_szPump_p p x l = some (szf (wt TPump x) l, ()) := by
  have hm : maxLen = 9223372036854775807 := rfl
  have hz : wt TPump x = (x.1.size + wt (.slice (.slice (.int .i64))) x.2) := rfl
  rw [hz]
  unfold laws_szPump_p
  rw [szf_wrap (l := l) (by omega) (by omega) (show x.1.size ≤ maxLen from hw.1)]
  by_cases c0 : l < ((x.1.size : Nat) : Int)
  · rw [decide_eq_true (show l - ((x.1.size : Nat) : Int) < 0 by omega), cond_true, szf_big (by omega)]
  rw [decide_eq_false (show ¬ l - ((x.1.size : Nat) : Int) < 0 by omega), cond_false]
  rw [laws_szInt64SS_eq hp x.2 hw.2 (l := (l - ((x.1.size : Nat) : Int))) (by omega) (by omega)]
  simp only [Option.bind_some]
  by_cases c1 : (l - ((x.1.size : Nat) : Int)) < ((wt (.slice (.slice (.int .i64))) x.2 : Nat) : Int)
  · rw [szf_big c1, decide_eq_true (show (-1 : Int) < 0 by omega), cond_true, szf_big (by omega)]
  rw [szf_small (l := (l - ((x.1.size : Nat) : Int))) (by omega), decide_eq_false (show ¬ (l - ((x.1.size : Nat) : Int)) - ((wt (.slice (.slice (.int .i64))) x.2 : Nat) : Int) < 0 by omega), cond_false]
  rw [szf_small (by omega)]
  exact congrArg (fun z => some (z, ())) (by omega)
theorem laws_szPumpS_eq {p : Nat} (hp : maxLen < p) (x : (List (Ty.T TPump))) (hw : Ty.wf (.slice TPump) x) {l : Int} (h0 : 0 ≤ l) (h1 : l ≤ 1048576) : laws_szPumpS_p p x l = some (szf (wt (.slice TPump) x) l, ()) := by
  unfold laws_szPumpS_p
  have hx : x.length ≤ maxLen := hw.1
  have hm : maxLen = 9223372036854775807 := rfl
  rw [szf_wrap h0 h1 hx]
  by_cases c : l < (x.length : Int)
  · rw [decide_eq_true (show l - (x.length : Int) < 0 by omega), cond_true]
    have := wt_len (e := TPump) x
    rw [szf_big (by omega)]
  · rw [decide_eq_false (show ¬ l - (x.length : Int) < 0 by omega), cond_false]
    have key := sz_loop (wt TPump) x (fun q l i => laws_szPumpS_l0_go p x q l i (fun _ o => some (o, ())) (fun o => some (o, ()))) (some ((-1 : Int), ())) (fun l => some (l, ()))
      (fun q l => by simp only [laws_szPumpS_l0_go, laws_szPumpS_l0_r, dlt_end, cond_false])
      (fun q l i y hg a b => by
        have hi := lt_of_get hg
        simp only [laws_szPumpS_l0_go, laws_szPumpS_l0_r, dlt_get hg, cond_true, if_pos (Int.natCast_nonneg i), Int.toNat_natCast, hg, Option.bind_some, laws_szPump_eq hp y (hw.2 y (List.mem_of_getElem? hg)) a b, wrap_succ (show i < 9223372036854775807 by omega)])
      p (l - x.length) (by omega) (by omega) (by omega)
    refine key.trans ?_
    have hz : wt (.slice TPump) x = x.length + (x.map (wt TPump)).sum := rfl
    rw [hz]
    split
    · rw [szf_small (by omega)]; congr 2; omega
    · rw [szf_big (by omega)]
theorem laws_szSubstation_eq {p : Nat} (hp : maxLen < p) (x : (Ty.T TSubstation)) (hw : Ty.wf TSubstation x) {l : Int} (h0 : 0 ≤ l) (h1 : l ≤ 1048576) : laws_szSubstation_p p x l = some (szf (wt TSubstation x) l, ()) := by
  have hm : maxLen = 9223372036854775807 := rfl
  have hz : wt TSubstation x = (x.1.size + (0 + (0 + (0 + 0)))) := rfl
  rw [hz]
  unfold laws_szSubstation_p
  rw [szf_wrap (l := l) (by omega) (by omega) (show x.1.size ≤ maxLen from hw.1)]
  by_cases c0 : l < ((x.1.size : Nat) : Int)
  · rw [decide_eq_true (show l - ((x.1.size : Nat) : Int) < 0 by omega), cond_true, szf_big (by omega)]
  rw [decide_eq_false (show ¬ l - ((x.1.size : Nat) : Int) < 0 by omega), cond_false]
  rw [szf_small (by omega)]
  exact congrArg (fun z => some (z, ())) (by omega)
theorem laws_szSubstationS_eq {p : Nat} (hp : maxLen < p) (x : (List (Ty.T TSubstation))) (hw : Ty.wf (.slice TSubstation) x) {l : Int} (h0 : 0 ≤ l) (h1 : l ≤ 1048576) : laws_szSubstationS_p p x l = some (szf (wt (.slice TSubstation) x) l, ()) := by
  unfold laws_szSubstationS_p
  have hx : x.length ≤ maxLen := hw.1
  have hm : maxLen = 9223372036854775807 := rfl
  rw [szf_wrap h0 h1 hx]
  by_cases c : l < (x.length : Int)
  · rw [decide_eq_true (show l - (x.length : Int) < 0 by omega), cond_true]
    have := wt_len (e := TSubstation) x
    rw [szf_big (by omega)]
  · rw [decide_eq_false (show ¬ l - (x.length : Int) < 0 by omega), cond_false]
    have key := sz_loop (wt TSubstation) x (fun q l i => laws_szSubstationS_l0_go p x q l i (fun _ o => some (o, ())) (fun o => some (o, ()))) (some ((-1 : Int), ())) (fun l => some (l, ()))
      (fun q l => by simp only [laws_szSubstationS_l0_go, laws_szSubstationS_l0_r, dlt_end, cond_false])
      (fun q l i y hg a b => by
        have hi := lt_of_get hg
        simp only [laws_szSubstationS_l0_go, laws_szSubstationS_l0_r, dlt_get hg, cond_true, if_pos (Int.natCast_nonneg i), Int.toNat_natCast, hg, Option.bind_some, laws_szSubstation_eq hp y (hw.2 y (List.mem_of_getElem? hg)) a b, wrap_succ (show i < 9223372036854775807 by omega)])
      p (l - x.length) (by omega) (by omega) (by omega)
    refine key.trans ?_
    have hz : wt (.slice TSubstation) x = x.length + (x.map (wt TSubstation)).sum := rfl
    rw [hz]
    split
    · rw [szf_small (by omega)]; congr 2; omega
    · rw [szf_big (by omega)]
theorem laws_szFuel_eq {p : Nat} (hp : maxLen < p) (x : (Ty.T TFuel)) (hw : Ty.wf TFuel x) {l : Int} (h0 : 0 ≤ l) (h1 : l ≤ 1048576) : laws_szFuel_p p x l = some (szf (wt TFuel x) l, ()) := by
  have hm : maxLen = 9223372036854775807 := rfl
  have hz : wt TFuel x = (x.1.size + (0 + (0 + 0))) := rfl
  rw [hz]
  unfold laws_szFuel_p
  rw [szf_wrap (l := l) (by omega) (by omega) (show x.1.size ≤ maxLen from hw.1)]
  by_cases c0 : l < ((x.1.size : Nat) : Int)
  · rw [decide_eq_true (show l - ((x.1.size : Nat) : Int) < 0 by omega), cond_true, szf_big (by omega)]
  rw [decide_eq_false (show ¬ l - ((x.1.size : Nat) : Int) < 0 by omega), cond_false]
  rw [szf_small (by omega)]
  exact congrArg (fun z => some (z, ())) (by omega)
theorem laws_szFuelS_eq {p : Nat} (hp : maxLen < p) (x : (List (Ty.T TFuel))) (hw : Ty.wf (.slice TFuel) x) {l : Int} (h0 : 0 ≤ l) (h1 : l ≤ 1048576) : laws_szFuelS_p p x l = some (szf (wt (.slice TFuel) x) l, ()) := by
  unfold laws_szFuelS_p
  have hx : x.length ≤ maxLen := hw.1
  have hm : maxLen = 9223372036854775807 := rfl
  rw [szf_wrap h0 h1 hx]
  by_cases c : l < (x.length : Int)
  · rw [decide_eq_true (show l - (x.length : Int) < 0 by omega), cond_true]
    have := wt_len (e := TFuel) x
    rw [szf_big (by omega)]
  · rw [decide_eq_false (show ¬ l - (x.length : Int) < 0 by omega), cond_false]
    have key := sz_loop (wt TFuel) x (fun q l i => laws_szFuelS_l0_go p x q l i (fun _ o => some (o, ())) (fun o => some (o, ()))) (some ((-1 : Int), ())) (fun l => some (l, ()))
      (fun q l => by simp only [laws_szFuelS_l0_go, laws_szFuelS_l0_r, dlt_end, cond_false])
      (fun q l i y hg a b => by
        have hi := lt_of_get hg
        simp only [laws_szFuelS_l0_go, laws_szFuelS_l0_r, dlt_get hg, cond_true, if_pos (Int.natCast_nonneg i), Int.toNat_natCast, hg, Option.bind_some, laws_szFuel_eq hp y (hw.2 y (List.mem_of_getElem? hg)) a b, wrap_succ (show i < 9223372036854775807 by omega)])
      p (l - x.length) (by omega) (by omega) (by omega)
    refine key.trans ?_
    have hz : wt (.slice TFuel) x = x.length + (x.map (wt TFuel)).sum := rfl
    rw [hz]
    split
    · rw [szf_small (by omega)]; congr 2; omega
    · rw [szf_big (by omega)]
theorem laws_szRepair_eq {p : Nat} (hp : maxLen < p) (x : (Ty.T TFuel)) (hw : Ty.wf TFuel x) {l : Int} (h0 : 0 ≤ l) (h1 : l ≤ 1048576) : laws_szRepair_p p x l = some (szf (wt TFuel x) l, ()) := by
  have hm : maxLen = 9223372036854775807 := rfl
  have hz : wt TFuel x = (x.1.size + (0 + (0 + 0))) := rfl
  rw [hz]
  unfold laws_szRepair_p
  rw [szf_wrap (l := l) (by omega) (by omega) (show x.1.size ≤ maxLen from hw.1)]
  by_cases c0 : l < ((x.1.size : Nat) : Int)
  · rw [decide_eq_true (show l - ((x.1.size : Nat) : Int) < 0 by omega), cond_true, szf_big (by omega)]
  rw [decide_eq_false (show ¬ l - ((x.1.size : Nat) : Int) < 0 by omega), cond_false]
  rw [szf_small (by omega)]
  exact congrArg (fun z => some (z, ())) (by omega)
theorem laws_szRepairS_eq {p : Nat} (hp : maxLen < p) (x : (List (Ty.T TFuel))) (hw : Ty.wf (.slice TFuel) x) {l : Int} (h0 : 0 ≤ l) (h1 : l ≤ 1048576) : laws_szRepairS_p p x l = some (szf (wt (.slice TFuel) x) l, ()) := by
  unfold laws_szRepairS_p
  have hx : x.length ≤ maxLen := hw.1
  have hm : maxLen = 9223372036854775807 := rfl
  rw [szf_wrap h0 h1 hx]
  by_cases c : l < (x.length : Int)
  · rw [decide_eq_true (show l - (x.length : Int) < 0 by omega), cond_true]
    have := wt_len (e := TFuel) x
    rw [szf_big (by omega)]
  · rw [decide_eq_false (show ¬ l - (x.length : Int) < 0 by omega), cond_false]
    have key := sz_loop (wt TFuel) x (fun q l i => laws_szRepairS_l0_go p x q l i (fun _ o => some (o, ())) (fun o => some (o, ()))) (some ((-1 : Int), ())) (fun l => some (l, ()))
      (fun q l => by simp only [laws_szRepairS_l0_go, laws_szRepairS_l0_r, dlt_end, cond_false])
      (fun q l i y hg a b => by
        have hi := lt_of_get hg
        simp only [laws_szRepairS_l0_go, laws_szRepairS_l0_r, dlt_get hg, cond_true, if_pos (Int.natCast_nonneg i), Int.toNat_natCast, hg, Option.bind_some, laws_szRepair_eq hp y (hw.2 y (List.mem_of_getElem? hg)) a b, wrap_succ (show i < 9223372036854775807 by omega)])
      p (l - x.length) (by omega) (by omega) (by omega)
    refine key.trans ?_
    have hz : wt (.slice TFuel) x = x.length + (x.map (wt TFuel)).sum := rfl
    rw [hz]
    split
    · rw [szf_small (by omega)]; congr 2; omega
    · rw [szf_big (by omega)]
theorem laws_szTenant_eq {p : Nat} (hp : maxLen < p) (x : (Ty.T TTenant)) (hw : Ty.wf TTenant x) {l : Int} (h0 : 0 ≤ l) (h1 : l ≤ 1048576) : laws_szTenant_p p x l = some (szf (wt TTenant x) l, ()) := by
  have hm : maxLen = 9223372036854775807 := rfl
  have hz : wt TTenant x = (x.1.size + (0 + 0)) := rfl
  rw [hz]
  unfold laws_szTenant_p
  rw [szf_wrap (l := l) (by omega) (by omega) (show x.1.size ≤ maxLen from hw.1)]
  by_cases c0 : l < ((x.1.size : Nat) : Int)
  · rw [decide_eq_true (show l - ((x.1.size : Nat) : Int) < 0 by omega), cond_true, szf_big (by omega)]
  rw [decide_eq_false (show ¬ l - ((x.1.size : Nat) : Int) < 0 by omega), cond_false]
  rw [szf_small (by omega)]
  exact congrArg (fun z => some (z, ())) (by omega)
theorem laws_szTenantS_eq {p : Nat} (hp : maxLen < p) (x : (List (Ty.T TTenant))) (hw : Ty.wf (.slice TTenant) x) {l : Int} (h0 : 0 ≤ l) (h1 : l ≤ 1048576) : laws_szTenantS_p p x l = some (szf (wt (.slice TTenant) x) l, ()) := by
  unfold laws_szTenantS_p
  have hx : x.length ≤ maxLen := hw.1
  have hm : maxLen = 9223372036854775807 := rfl
  rw [szf_wrap h0 h1 hx]
  by_cases c : l < (x.length : Int)
  · rw [decide_eq_true (show l - (x.length : Int) < 0 by omega), cond_true]
    have := wt_len (e := TTenant) x
    rw [szf_big (by omega)]
  · rw [decide_eq_false (show ¬ l - (x.length : Int) < 0 by omega), cond_false]
    have key := sz_loop (wt TTenant) x (fun q l i => laws_szTenantS_l0_go p x q l i (fun _ o => some (o, ())) (fun o => some (o, ()))) (some ((-1 : Int), ())) (fun l => some (l, ()))
      (fun q l => by simp only [laws_szTenantS_l0_go, laws_szTenantS_l0_r, dlt_end, cond_false])
      (fun q l i y hg a b => by
        have hi := lt_of_get hg
        simp only [laws_szTenantS_l0_go, laws_szTenantS_l0_r, dlt_get hg, cond_true, if_pos (Int.natCast_nonneg i), Int.toNat_natCast, hg, Option.bind_some, laws_szTenant_eq hp y (hw.2 y (List.mem_of_getElem? hg)) a b, wrap_succ (show i < 9223372036854775807 by omega)])
      p (l - x.length) (by omega) (by omega) (by omega)
    refine key.trans ?_
    have hz : wt (.slice TTenant) x = x.length + (x.map (wt TTenant)).sum := rfl
    rw [hz]
    split
    · rw [szf_small (by omega)]; congr 2; omega
    · rw [szf_big (by omega)]
theorem laws_szDuty_eq {p : Nat} (hp : maxLen < p) (x : (Ty.T TDuty)) (hw : Ty.wf TDuty x) {l : Int} (h0 : 0 ≤ l) (h1 : l ≤ 1048576) : laws_szDuty_p p x l = some (szf (wt TDuty x) l, ()) := by
  have hm : maxLen = 9223372036854775807 := rfl
  have hz : wt TDuty x = (x.1.size + (0 + (0 + 0))) := rfl
  rw [hz]
  unfold laws_szDuty_p
  rw [szf_wrap (l := l) (by omega) (by omega) (show x.1.size ≤ maxLen from hw.1)]
  by_cases c0 : l < ((x.1.size : Nat) : Int)
  · rw [decide_eq_true (show l - ((x.1.size : Nat) : Int) < 0 by omega), cond_true, szf_big (by omega)]
  rw [decide_eq_false (show ¬ l - ((x.1.size : Nat) : Int) < 0 by omega), cond_false]
  rw [szf_small (by omega)]
  exact congrArg (fun z => some (z, ())) (by omega)
theorem laws_szDutyS_eq {p : Nat} (hp : maxLen < p) (x : (List (Ty.T TDuty))) (hw : Ty.wf (.slice TDuty) x) {l : Int} (h0 : 0 ≤ l) (h1 : l ≤ 1048576) : laws_szDutyS_p p x l = some (szf (wt (.slice TDuty) x) l, ()) := by
  unfold laws_szDutyS_p
  have hx : x.length ≤ maxLen := hw.1
  have hm : maxLen = 9223372036854775807 := rfl
  rw [szf_wrap h0 h1 hx]
  by_cases c : l < (x.length : Int)
  · rw [decide_eq_true (show l - (x.length : Int) < 0 by omega), cond_true]
    have := wt_len (e := TDuty) x
    rw [szf_big (by omega)]
  · rw [decide_eq_false (show ¬ l - (x.length : Int) < 0 by omega), cond_false]
    have key := sz_loop (wt TDuty) x (fun q l i => laws_szDutyS_l0_go p x q l i (fun _ o => some (o, ())) (fun o => some (o, ()))) (some ((-1 : Int), ())) (fun l => some (l, ()))
      (fun q l => by simp only [laws_szDutyS_l0_go, laws_szDutyS_l0_r, dlt_end, cond_false])
      (fun q l i y hg a b => by
        have hi := lt_of_get hg
        simp only [laws_szDutyS_l0_go, laws_szDutyS_l0_r, dlt_get hg, cond_true, if_pos (Int.natCast_nonneg i), Int.toNat_natCast, hg, Option.bind_some, laws_szDuty_eq hp y (hw.2 y (List.mem_of_getElem? hg)) a b, wrap_succ (show i < 9223372036854775807 by omega)])
      p (l - x.length) (by omega) (by omega) (by omega)
    refine key.trans ?_
    have hz : wt (.slice TDuty) x = x.length + (x.map (wt TDuty)).sum := rfl
    rw [hz]
    split
    · rw [szf_small (by omega)]; congr 2; omega
    · rw [szf_big (by omega)]
theorem laws_szDesk_eq {p : Nat} (hp : maxLen < p) (x : (Ty.T TDesk)) (hw : Ty.wf TDesk x) {l : Int} (h0 : 0 ≤ l) (h1 : l ≤ 1048576) : laws_szDesk_p p x l = some (szf (wt TDesk x) l, ()) := by
  have hm : maxLen = 9223372036854775807 := rfl
  have hz : wt TDesk x = (wt TNetwork x.1 + (wt (.slice (.int .i64)) x.2.1 + (wt (.slice TValve) x.2.2.1 + (wt (.slice TPump) x.2.2.2.1 + (wt (.slice TSubstation) x.2.2.2.2.1 + (0 + (wt (.slice TFuel) x.2.2.2.2.2.2.1 + (wt (.slice TFuel) x.2.2.2.2.2.2.2.1 + (wt (.slice TTenant) x.2.2.2.2.2.2.2.2.1 + wt (.slice TDuty) x.2.2.2.2.2.2.2.2.2))))))))) := rfl
  rw [hz]
  unfold laws_szDesk_p
  rw [laws_szNetwork_eq hp x.1 hw.1 (l := l) (by omega) (by omega)]
  simp only [Option.bind_some]
  by_cases c0 : l < ((wt TNetwork x.1 : Nat) : Int)
  · rw [szf_big c0, decide_eq_true (show (-1 : Int) < 0 by omega), cond_true, szf_big (by omega)]
  rw [szf_small (l := l) (by omega), decide_eq_false (show ¬ l - ((wt TNetwork x.1 : Nat) : Int) < 0 by omega), cond_false]
  rw [laws_szInt64S_eq hp x.2.1 hw.2.1 (l := (l - ((wt TNetwork x.1 : Nat) : Int))) (by omega) (by omega)]
  simp only [Option.bind_some]
  by_cases c1 : (l - ((wt TNetwork x.1 : Nat) : Int)) < ((wt (.slice (.int .i64)) x.2.1 : Nat) : Int)
  · rw [szf_big c1, decide_eq_true (show (-1 : Int) < 0 by omega), cond_true, szf_big (by omega)]
  rw [szf_small (l := (l - ((wt TNetwork x.1 : Nat) : Int))) (by omega), decide_eq_false (show ¬ (l - ((wt TNetwork x.1 : Nat) : Int)) - ((wt (.slice (.int .i64)) x.2.1 : Nat) : Int) < 0 by omega), cond_false]
  rw [laws_szValveS_eq hp x.2.2.1 hw.2.2.1 (l := ((l - ((wt TNetwork x.1 : Nat) : Int)) - ((wt (.slice (.int .i64)) x.2.1 : Nat) : Int))) (by omega) (by omega)]
  simp only [Option.bind_some]
  by_cases c2 : ((l - ((wt TNetwork x.1 : Nat) : Int)) - ((wt (.slice (.int .i64)) x.2.1 : Nat) : Int)) < ((wt (.slice TValve) x.2.2.1 : Nat) : Int)
  · rw [szf_big c2, decide_eq_true (show (-1 : Int) < 0 by omega), cond_true, szf_big (by omega)]
  rw [szf_small (l := ((l - ((wt TNetwork x.1 : Nat) : Int)) - ((wt (.slice (.int .i64)) x.2.1 : Nat) : Int))) (by omega), decide_eq_false (show ¬ ((l - ((wt TNetwork x.1 : Nat) : Int)) - ((wt (.slice (.int .i64)) x.2.1 : Nat) : Int)) - ((wt (.slice TValve) x.2.2.1 : Nat) : Int) < 0 by omega), cond_false]
  rw [laws_szPumpS_eq hp x.2.2.2.1 hw.2.2.2.1 (l := (((l - ((wt TNetwork x.1 : Nat) : Int)) - ((wt (.slice (.int .i64)) x.2.1 : Nat) : Int)) - ((wt (.slice TValve) x.2.2.1 : Nat) : Int))) (by omega) (by omega)]
  simp only [Option.bind_some]
  by_cases c3 : (((l - ((wt TNetwork x.1 : Nat) : Int)) - ((wt (.slice (.int .i64)) x.2.1 : Nat) : Int)) - ((wt (.slice TValve) x.2.2.1 : Nat) : Int)) < ((wt (.slice TPump) x.2.2.2.1 : Nat) : Int)
  · rw [szf_big c3, decide_eq_true (show (-1 : Int) < 0 by omega), cond_true, szf_big (by omega)]
  rw [szf_small (l := (((l - ((wt TNetwork x.1 : Nat) : Int)) - ((wt (.slice (.int .i64)) x.2.1 : Nat) : Int)) - ((wt (.slice TValve) x.2.2.1 : Nat) : Int))) (by omega), decide_eq_false (show ¬ (((l - ((wt TNetwork x.1 : Nat) : Int)) - ((wt (.slice (.int .i64)) x.2.1 : Nat) : Int)) - ((wt (.slice TValve) x.2.2.1 : Nat) : Int)) - ((wt (.slice TPump) x.2.2.2.1 : Nat) : Int) < 0 by omega), cond_false]
  rw [laws_szSubstationS_eq hp x.2.2.2.2.1 hw.2.2.2.2.1 (l := ((((l - ((wt TNetwork x.1 : Nat) : Int)) - ((wt (.slice (.int .i64)) x.2.1 : Nat) : Int)) - ((wt (.slice TValve) x.2.2.1 : Nat) : Int)) - ((wt (.slice TPump) x.2.2.2.1 : Nat) : Int))) (by omega) (by omega)]
  simp only [Option.bind_some]
  by_cases c4 : ((((l - ((wt TNetwork x.1 : Nat) : Int)) - ((wt (.slice (.int .i64)) x.2.1 : Nat) : Int)) - ((wt (.slice TValve) x.2.2.1 : Nat) : Int)) - ((wt (.slice TPump) x.2.2.2.1 : Nat) : Int)) < ((wt (.slice TSubstation) x.2.2.2.2.1 : Nat) : Int)
  · rw [szf_big c4, decide_eq_true (show (-1 : Int) < 0 by omega), cond_true, szf_big (by omega)]
  rw [szf_small (l := ((((l - ((wt TNetwork x.1 : Nat) : Int)) - ((wt (.slice (.int .i64)) x.2.1 : Nat) : Int)) - ((wt (.slice TValve) x.2.2.1 : Nat) : Int)) - ((wt (.slice TPump) x.2.2.2.1 : Nat) : Int))) (by omega), decide_eq_false (show ¬ ((((l - ((wt TNetwork x.1 : Nat) : Int)) - ((wt (.slice (.int .i64)) x.2.1 : Nat) : Int)) - ((wt (.slice TValve) x.2.2.1 : Nat) : Int)) - ((wt (.slice TPump) x.2.2.2.1 : Nat) : Int)) - ((wt (.slice TSubstation) x.2.2.2.2.1 : Nat) : Int) < 0 by omega), cond_false]
  rw [laws_szFuelS_eq hp x.2.2.2.2.2.2.1 hw.2.2.2.2.2.2.1 (l := (((((l - ((wt TNetwork x.1 : Nat) : Int)) - ((wt (.slice (.int .i64)) x.2.1 : Nat) : Int)) - ((wt (.slice TValve) x.2.2.1 : Nat) : Int)) - ((wt (.slice TPump) x.2.2.2.1 : Nat) : Int)) - ((wt (.slice TSubstation) x.2.2.2.2.1 : Nat) : Int))) (by omega) (by omega)]
  simp only [Option.bind_some]
  by_cases c6 : (((((l - ((wt TNetwork x.1 : Nat) : Int)) - ((wt (.slice (.int .i64)) x.2.1 : Nat) : Int)) - ((wt (.slice TValve) x.2.2.1 : Nat) : Int)) - ((wt (.slice TPump) x.2.2.2.1 : Nat) : Int)) - ((wt (.slice TSubstation) x.2.2.2.2.1 : Nat) : Int)) < ((wt (.slice TFuel) x.2.2.2.2.2.2.1 : Nat) : Int)
  · rw [szf_big c6, decide_eq_true (show (-1 : Int) < 0 by omega), cond_true, szf_big (by omega)]
  rw [szf_small (l := (((((l - ((wt TNetwork x.1 : Nat) : Int)) - ((wt (.slice (.int .i64)) x.2.1 : Nat) : Int)) - ((wt (.slice TValve) x.2.2.1 : Nat) : Int)) - ((wt (.slice TPump) x.2.2.2.1 : Nat) : Int)) - ((wt (.slice TSubstation) x.2.2.2.2.1 : Nat) : Int))) (by omega), decide_eq_false (show ¬ (((((l - ((wt TNetwork x.1 : Nat) : Int)) - ((wt (.slice (.int .i64)) x.2.1 : Nat) : Int)) - ((wt (.slice TValve) x.2.2.1 : Nat) : Int)) - ((wt (.slice TPump) x.2.2.2.1 : Nat) : Int)) - ((wt (.slice TSubstation) x.2.2.2.2.1 : Nat) : Int)) - ((wt (.slice TFuel) x.2.2.2.2.2.2.1 : Nat) : Int) < 0 by omega), cond_false]
  rw [laws_szRepairS_eq hp x.2.2.2.2.2.2.2.1 hw.2.2.2.2.2.2.2.1 (l := ((((((l - ((wt TNetwork x.1 : Nat) : Int)) - ((wt (.slice (.int .i64)) x.2.1 : Nat) : Int)) - ((wt (.slice TValve) x.2.2.1 : Nat) : Int)) - ((wt (.slice TPump) x.2.2.2.1 : Nat) : Int)) - ((wt (.slice TSubstation) x.2.2.2.2.1 : Nat) : Int)) - ((wt (.slice TFuel) x.2.2.2.2.2.2.1 : Nat) : Int))) (by omega) (by omega)]
  simp only [Option.bind_some]
  by_cases c7 : ((((((l - ((wt TNetwork x.1 : Nat) : Int)) - ((wt (.slice (.int .i64)) x.2.1 : Nat) : Int)) - ((wt (.slice TValve) x.2.2.1 : Nat) : Int)) - ((wt (.slice TPump) x.2.2.2.1 : Nat) : Int)) - ((wt (.slice TSubstation) x.2.2.2.2.1 : Nat) : Int)) - ((wt (.slice TFuel) x.2.2.2.2.2.2.1 : Nat) : Int)) < ((wt (.slice TFuel) x.2.2.2.2.2.2.2.1 : Nat) : Int)
  · rw [szf_big c7, decide_eq_true (show (-1 : Int) < 0 by omega), cond_true, szf_big (by omega)]
  rw [szf_small (l := ((((((l - ((wt TNetwork x.1 : Nat) : Int)) - ((wt (.slice (.int .i64)) x.2.1 : Nat) : Int)) - ((wt (.slice TValve) x.2.2.1 : Nat) : Int)) - ((wt (.slice TPump) x.2.2.2.1 : Nat) : Int)) - ((wt (.slice TSubstation) x.2.2.2.2.1 : Nat) : Int)) - ((wt (.slice TFuel) x.2.2.2.2.2.2.1 : Nat) : Int))) (by omega), decide_eq_false (show ¬ ((((((l - ((wt TNetwork x.1 : Nat) : Int)) - ((wt (.slice (.int .i64)) x.2.1 : Nat) : Int)) - ((wt (.slice TValve) x.2.2.1 : Nat) : Int)) - ((wt (.slice TPump) x.2.2.2.1 : Nat) : Int)) - ((wt (.slice TSubstation) x.2.2.2.2.1 : Nat) : Int)) - ((wt (.slice TFuel) x.2.2.2.2.2.2.1 : Nat) : Int)) - ((wt (.slice TFuel) x.2.2.2.2.2.2.2.1 : Nat) : Int) < 0 by omega), cond_false]
  rw [laws_szTenantS_eq hp x.2.2.2.2.2.2.2.2.1 hw.2.2.2.2.2.2.2.2.1 (l := (((((((l - ((wt TNetwork x.1 : Nat) : Int)) - ((wt (.slice (.int .i64)) x.2.1 : Nat) : Int)) - ((wt (.slice TValve) x.2.2.1 : Nat) : Int)) - ((wt (.slice TPump) x.2.2.2.1 : Nat) : Int)) - ((wt (.slice TSubstation) x.2.2.2.2.1 : Nat) : Int)) - ((wt (.slice TFuel) x.2.2.2.2.2.2.1 : Nat) : Int)) - ((wt (.slice TFuel) x.2.2.2.2.2.2.2.1 : Nat) : Int))) (by omega) (by omega)]
  simp only [Option.bind_some]
  by_cases c8 : (((((((l - ((wt TNetwork x.1 : Nat) : Int)) - ((wt (.slice (.int .i64)) x.2.1 : Nat) : Int)) - ((wt (.slice TValve) x.2.2.1 : Nat) : Int)) - ((wt (.slice TPump) x.2.2.2.1 : Nat) : Int)) - ((wt (.slice TSubstation) x.2.2.2.2.1 : Nat) : Int)) - ((wt (.slice TFuel) x.2.2.2.2.2.2.1 : Nat) : Int)) - ((wt (.slice TFuel) x.2.2.2.2.2.2.2.1 : Nat) : Int)) < ((wt (.slice TTenant) x.2.2.2.2.2.2.2.2.1 : Nat) : Int)
  · rw [szf_big c8, decide_eq_true (show (-1 : Int) < 0 by omega), cond_true, szf_big (by omega)]
  rw [szf_small (l := (((((((l - ((wt TNetwork x.1 : Nat) : Int)) - ((wt (.slice (.int .i64)) x.2.1 : Nat) : Int)) - ((wt (.slice TValve) x.2.2.1 : Nat) : Int)) - ((wt (.slice TPump) x.2.2.2.1 : Nat) : Int)) - ((wt (.slice TSubstation) x.2.2.2.2.1 : Nat) : Int)) - ((wt (.slice TFuel) x.2.2.2.2.2.2.1 : Nat) : Int)) - ((wt (.slice TFuel) x.2.2.2.2.2.2.2.1 : Nat) : Int))) (by omega), decide_eq_false (show ¬ (((((((l - ((wt TNetwork x.1 : Nat) : Int)) - ((wt (.slice (.int .i64)) x.2.1 : Nat) : Int)) - ((wt (.slice TValve) x.2.2.1 : Nat) : Int)) - ((wt (.slice TPump) x.2.2.2.1 : Nat) : Int)) - ((wt (.slice TSubstation) x.2.2.2.2.1 : Nat) : Int)) - ((wt (.slice TFuel) x.2.2.2.2.2.2.1 : Nat) : Int)) - ((wt (.slice TFuel) x.2.2.2.2.2.2.2.1 : Nat) : Int)) - ((wt (.slice TTenant) x.2.2.2.2.2.2.2.2.1 : Nat) : Int) < 0 by omega), cond_false]
  rw [laws_szDutyS_eq hp x.2.2.2.2.2.2.2.2.2 hw.2.2.2.2.2.2.2.2.2 (l := ((((((((l - ((wt TNetwork x.1 : Nat) : Int)) - ((wt (.slice (.int .i64)) x.2.1 : Nat) : Int)) - ((wt (.slice TValve) x.2.2.1 : Nat) : Int)) - ((wt (.slice TPump) x.2.2.2.1 : Nat) : Int)) - ((wt (.slice TSubstation) x.2.2.2.2.1 : Nat) : Int)) - ((wt (.slice TFuel) x.2.2.2.2.2.2.1 : Nat) : Int)) - ((wt (.slice TFuel) x.2.2.2.2.2.2.2.1 : Nat) : Int)) - ((wt (.slice TTenant) x.2.2.2.2.2.2.2.2.1 : Nat) : Int))) (by omega) (by omega)]
  simp only [Option.bind_some]
  by_cases c9 : ((((((((l - ((wt TNetwork x.1 : Nat) : Int)) - ((wt (.slice (.int .i64)) x.2.1 : Nat) : Int)) - ((wt (.slice TValve) x.2.2.1 : Nat) : Int)) - ((wt (.slice TPump) x.2.2.2.1 : Nat) : Int)) - ((wt (.slice TSubstation) x.2.2.2.2.1 : Nat) : Int)) - ((wt (.slice TFuel) x.2.2.2.2.2.2.1 : Nat) : Int)) - ((wt (.slice TFuel) x.2.2.2.2.2.2.2.1 : Nat) : Int)) - ((wt (.slice TTenant) x.2.2.2.2.2.2.2.2.1 : Nat) : Int)) < ((wt (.slice TDuty) x.2.2.2.2.2.2.2.2.2 : Nat) : Int)
  · rw [szf_big c9, decide_eq_true (show (-1 : Int) < 0 by omega), cond_true, szf_big (by omega)]
  rw [szf_small (l := ((((((((l - ((wt TNetwork x.1 : Nat) : Int)) - ((wt (.slice (.int .i64)) x.2.1 : Nat) : Int)) - ((wt (.slice TValve) x.2.2.1 : Nat) : Int)) - ((wt (.slice TPump) x.2.2.2.1 : Nat) : Int)) - ((wt (.slice TSubstation) x.2.2.2.2.1 : Nat) : Int)) - ((wt (.slice TFuel) x.2.2.2.2.2.2.1 : Nat) : Int)) - ((wt (.slice TFuel) x.2.2.2.2.2.2.2.1 : Nat) : Int)) - ((wt (.slice TTenant) x.2.2.2.2.2.2.2.2.1 : Nat) : Int))) (by omega), decide_eq_false (show ¬ ((((((((l - ((wt TNetwork x.1 : Nat) : Int)) - ((wt (.slice (.int .i64)) x.2.1 : Nat) : Int)) - ((wt (.slice TValve) x.2.2.1 : Nat) : Int)) - ((wt (.slice TPump) x.2.2.2.1 : Nat) : Int)) - ((wt (.slice TSubstation) x.2.2.2.2.1 : Nat) : Int)) - ((wt (.slice TFuel) x.2.2.2.2.2.2.1 : Nat) : Int)) - ((wt (.slice TFuel) x.2.2.2.2.2.2.2.1 : Nat) : Int)) - ((wt (.slice TTenant) x.2.2.2.2.2.2.2.2.1 : Nat) : Int)) - ((wt (.slice TDuty) x.2.2.2.2.2.2.2.2.2 : Nat) : Int) < 0 by omega), cond_false]
  rw [szf_small (by omega)]
  exact congrArg (fun z => some (z, ())) (by omega)
theorem laws_toInt64S_eq {p : Nat} (hp : maxLen < p) (x : (List Int)) (hw : wt (.slice (.int .i64)) x ≤ 1048576) : laws_toInt64S_p p x = some (x, ()) := by
  unfold laws_toInt64S_p
  have hm : maxLen = 9223372036854775807 := rfl
  have hl := wt_len (e := (.int .i64)) x
  rw [if_pos (by refine ⟨?_, ?_, ?_, ?_⟩ <;> omega), Int.toNat_natCast]
  have key := to_loop x id (Ty.zero (.int .i64)) (fun q i out => laws_toInt64S_l0_go p x q i out (fun o => some (o, ()))) (fun o => some (o, ()))
    (fun q out => by simp only [laws_toInt64S_l0_go, laws_toInt64S_l0_r, dlt_end, cond_false])
    (fun q i y out hg ho => by
      have hi := lt_of_get hg
      simp only [laws_toInt64S_l0_go, laws_toInt64S_l0_r, dlt_get hg, cond_true, if_pos (Int.natCast_nonneg i), Int.toNat_natCast, hg, Option.bind_some, if_pos (show 0 ≤ (i : Int) ∧ (i : Int) < (out.length : Int) by omega), wrap_succ (show i < 9223372036854775807 by omega), id])
    p (by omega)
  refine key.trans ?_
  rw [List.map_id]
theorem laws_toPipe_eq {p : Nat} (hp : maxLen < p) (x : (Ty.T TPipe)) (hw : wt TPipe x ≤ 1048576) : laws_toPipe_p p x = some (x, ()) := by
  rfl
theorem laws_toPipeS_eq {p : Nat} (hp : maxLen < p) (x : (List (Ty.T TPipe))) (hw : wt (.slice TPipe) x ≤ 1048576) : laws_toPipeS_p p x = some (x, ()) := by
  unfold laws_toPipeS_p
  have hm : maxLen = 9223372036854775807 := rfl
  have hl := wt_len (e := TPipe) x
  rw [if_pos (by refine ⟨?_, ?_, ?_, ?_⟩ <;> omega), Int.toNat_natCast]
  have key := to_loop x id (Ty.zero TPipe) (fun q i out => laws_toPipeS_l0_go p x q i out (fun o => some (o, ()))) (fun o => some (o, ()))
    (fun q out => by simp only [laws_toPipeS_l0_go, laws_toPipeS_l0_r, dlt_end, cond_false])
    (fun q i y out hg ho => by
      have hi := lt_of_get hg
      simp only [laws_toPipeS_l0_go, laws_toPipeS_l0_r, dlt_get hg, cond_true, if_pos (Int.natCast_nonneg i), Int.toNat_natCast, hg, Option.bind_some, laws_toPipe_eq hp y (by have := wt_mem (e := TPipe) hg; omega), if_pos (show 0 ≤ (i : Int) ∧ (i : Int) < (out.length : Int) by omega), wrap_succ (show i < 9223372036854775807 by omega), id])
    p (by omega)
  refine key.trans ?_
  rw [List.map_id]
theorem laws_toNetwork_eq {p : Nat} (hp : maxLen < p) (x : (Ty.T TNetwork)) (hw : wt TNetwork x ≤ 1048576) : laws_toNetwork_p p x = some (x, ()) := by
  have hz : wt TNetwork x = (wt (.slice (.int .i64)) x.1 + wt (.slice TPipe) x.2) := rfl
  rw [hz] at hw
  simp only [laws_toNetwork_p, laws_toInt64S_eq hp x.1 (by omega), laws_toPipeS_eq hp x.2 (by omega), Option.bind_some]
theorem laws_toValve_eq {p : Nat} (hp : maxLen < p) (x : (Ty.T TValve)) (hw : wt TValve x ≤ 1048576) : laws_toValve_p p x = some (x, ()) := by
  rfl
theorem laws_toValveS_eq {p : Nat} (hp : maxLen < p) (x : (List (Ty.T TValve))) (hw : wt (.slice TValve) x ≤ 1048576) : laws_toValveS_p p x = some (x, ()) := by
  unfold laws_toValveS_p
  have hm : maxLen = 9223372036854775807 := rfl
  have hl := wt_len (e := TValve) x
  rw [if_pos (by refine ⟨?_, ?_, ?_, ?_⟩ <;> omega), Int.toNat_natCast]
  have key := to_loop x id (Ty.zero TValve) (fun q i out => laws_toValveS_l0_go p x q i out (fun o => some (o, ()))) (fun o => some (o, ()))
    (fun q out => by simp only [laws_toValveS_l0_go, laws_toValveS_l0_r, dlt_end, cond_false])
    (fun q i y out hg ho => by
      have hi := lt_of_get hg
      simp only [laws_toValveS_l0_go, laws_toValveS_l0_r, dlt_get hg, cond_true, if_pos (Int.natCast_nonneg i), Int.toNat_natCast, hg, Option.bind_some, laws_toValve_eq hp y (by have := wt_mem (e := TValve) hg; omega), if_pos (show 0 ≤ (i : Int) ∧ (i : Int) < (out.length : Int) by omega), wrap_succ (show i < 9223372036854775807 by omega), id])
    p (by omega)
  refine key.trans ?_
  rw [List.map_id]
theorem laws_toInt64SS_eq {p : Nat} (hp : maxLen < p) (x : (List (List Int))) (hw : wt (.slice (.slice (.int .i64))) x ≤ 1048576) : laws_toInt64SS_p p x = some (x, ()) := by
  unfold laws_toInt64SS_p
  have hm : maxLen = 9223372036854775807 := rfl
  have hl := wt_len (e := (.slice (.int .i64))) x
  rw [if_pos (by refine ⟨?_, ?_, ?_, ?_⟩ <;> omega), Int.toNat_natCast]
  have key := to_loop x id (Ty.zero (.slice (.int .i64))) (fun q i out => laws_toInt64SS_l0_go p x q i out (fun o => some (o, ()))) (fun o => some (o, ()))
    (fun q out => by simp only [laws_toInt64SS_l0_go, laws_toInt64SS_l0_r, dlt_end, cond_false])
    (fun q i y out hg ho => by
      have hi := lt_of_get hg
      simp only [laws_toInt64SS_l0_go, laws_toInt64SS_l0_r, dlt_get hg, cond_true, if_pos (Int.natCast_nonneg i), Int.toNat_natCast, hg, Option.bind_some, laws_toInt64S_eq hp y (by have := wt_mem (e := (.slice (.int .i64))) hg; omega), if_pos (show 0 ≤ (i : Int) ∧ (i : Int) < (out.length : Int) by omega), wrap_succ (show i < 9223372036854775807 by omega), id])
    p (by omega)
  refine key.trans ?_
  rw [List.map_id]
theorem laws_toPump_eq {p : Nat} (hp : maxLen < p) (x : (Ty.T TPump)) (hw : wt TPump x ≤ 1048576) : laws_toPump_p p x = some (x, ()) := by
  have hz : wt TPump x = (x.1.size + wt (.slice (.slice (.int .i64))) x.2) := rfl
  rw [hz] at hw
  simp only [laws_toPump_p, laws_toInt64SS_eq hp x.2 (by omega), Option.bind_some]
theorem laws_toPumpS_eq {p : Nat} (hp : maxLen < p) (x : (List (Ty.T TPump))) (hw : wt (.slice TPump) x ≤ 1048576) : laws_toPumpS_p p x = some (x, ()) := by
  unfold laws_toPumpS_p
  have hm : maxLen = 9223372036854775807 := rfl
  have hl := wt_len (e := TPump) x
  rw [if_pos (by refine ⟨?_, ?_, ?_, ?_⟩ <;> omega), Int.toNat_natCast]
  have key := to_loop x id (Ty.zero TPump) (fun q i out => laws_toPumpS_l0_go p x q i out (fun o => some (o, ()))) (fun o => some (o, ()))
    (fun q out => by simp only [laws_toPumpS_l0_go, laws_toPumpS_l0_r, dlt_end, cond_false])
    (fun q i y out hg ho => by
      have hi := lt_of_get hg
      simp only [laws_toPumpS_l0_go, laws_toPumpS_l0_r, dlt_get hg, cond_true, if_pos (Int.natCast_nonneg i), Int.toNat_natCast, hg, Option.bind_some, laws_toPump_eq hp y (by have := wt_mem (e := TPump) hg; omega), if_pos (show 0 ≤ (i : Int) ∧ (i : Int) < (out.length : Int) by omega), wrap_succ (show i < 9223372036854775807 by omega), id])
    p (by omega)
  refine key.trans ?_
  rw [List.map_id]
theorem laws_toSubstation_eq {p : Nat} (hp : maxLen < p) (x : (Ty.T TSubstation)) (hw : wt TSubstation x ≤ 1048576) : laws_toSubstation_p p x = some (x, ()) := by
  rfl
theorem laws_toSubstationS_eq {p : Nat} (hp : maxLen < p) (x : (List (Ty.T TSubstation))) (hw : wt (.slice TSubstation) x ≤ 1048576) : laws_toSubstationS_p p x = some (x, ()) := by
  unfold laws_toSubstationS_p
  have hm : maxLen = 9223372036854775807 := rfl
  have hl := wt_len (e := TSubstation) x
  rw [if_pos (by refine ⟨?_, ?_, ?_, ?_⟩ <;> omega), Int.toNat_natCast]
  have key := to_loop x id (Ty.zero TSubstation) (fun q i out => laws_toSubstationS_l0_go p x q i out (fun o => some (o, ()))) (fun o => some (o, ()))
    (fun q out => by simp only [laws_toSubstationS_l0_go, laws_toSubstationS_l0_r, dlt_end, cond_false])
    (fun q i y out hg ho => by
      have hi := lt_of_get hg
      simp only [laws_toSubstationS_l0_go, laws_toSubstationS_l0_r, dlt_get hg, cond_true, if_pos (Int.natCast_nonneg i), Int.toNat_natCast, hg, Option.bind_some, laws_toSubstation_eq hp y (by have := wt_mem (e := TSubstation) hg; omega), if_pos (show 0 ≤ (i : Int) ∧ (i : Int) < (out.length : Int) by omega), wrap_succ (show i < 9223372036854775807 by omega), id])
    p (by omega)
  refine key.trans ?_
  rw [List.map_id]
theorem laws_toTank_eq {p : Nat} (hp : maxLen < p) (x : (Ty.T TTank)) (hw : wt TTank x ≤ 1048576) : laws_toTank_p p x = some (x, ()) := by
  rfl
theorem laws_toFuel_eq {p : Nat} (hp : maxLen < p) (x : (Ty.T TFuel)) (hw : wt TFuel x ≤ 1048576) : laws_toFuel_p p x = some (x, ()) := by
  rfl
theorem laws_toFuelS_eq {p : Nat} (hp : maxLen < p) (x : (List (Ty.T TFuel))) (hw : wt (.slice TFuel) x ≤ 1048576) : laws_toFuelS_p p x = some (x, ()) := by
  unfold laws_toFuelS_p
  have hm : maxLen = 9223372036854775807 := rfl
  have hl := wt_len (e := TFuel) x
  rw [if_pos (by refine ⟨?_, ?_, ?_, ?_⟩ <;> omega), Int.toNat_natCast]
  have key := to_loop x id (Ty.zero TFuel) (fun q i out => laws_toFuelS_l0_go p x q i out (fun o => some (o, ()))) (fun o => some (o, ()))
    (fun q out => by simp only [laws_toFuelS_l0_go, laws_toFuelS_l0_r, dlt_end, cond_false])
    (fun q i y out hg ho => by
      have hi := lt_of_get hg
      simp only [laws_toFuelS_l0_go, laws_toFuelS_l0_r, dlt_get hg, cond_true, if_pos (Int.natCast_nonneg i), Int.toNat_natCast, hg, Option.bind_some, laws_toFuel_eq hp y (by have := wt_mem (e := TFuel) hg; omega), if_pos (show 0 ≤ (i : Int) ∧ (i : Int) < (out.length : Int) by omega), wrap_succ (show i < 9223372036854775807 by omega), id])
    p (by omega)
  refine key.trans ?_
  rw [List.map_id]
theorem laws_toRepair_eq {p : Nat} (hp : maxLen < p) (x : (Ty.T TFuel)) (hw : wt TFuel x ≤ 1048576) : laws_toRepair_p p x = some (x, ()) := by
  rfl
theorem laws_toRepairS_eq {p : Nat} (hp : maxLen < p) (x : (List (Ty.T TFuel))) (hw : wt (.slice TFuel) x ≤ 1048576) : laws_toRepairS_p p x = some (x, ()) := by
  unfold laws_toRepairS_p
  have hm : maxLen = 9223372036854775807 := rfl
  have hl := wt_len (e := TFuel) x
  rw [if_pos (by refine ⟨?_, ?_, ?_, ?_⟩ <;> omega), Int.toNat_natCast]
  have key := to_loop x id (Ty.zero TFuel) (fun q i out => laws_toRepairS_l0_go p x q i out (fun o => some (o, ()))) (fun o => some (o, ()))
    (fun q out => by simp only [laws_toRepairS_l0_go, laws_toRepairS_l0_r, dlt_end, cond_false])
    (fun q i y out hg ho => by
      have hi := lt_of_get hg
      simp only [laws_toRepairS_l0_go, laws_toRepairS_l0_r, dlt_get hg, cond_true, if_pos (Int.natCast_nonneg i), Int.toNat_natCast, hg, Option.bind_some, laws_toRepair_eq hp y (by have := wt_mem (e := TFuel) hg; omega), if_pos (show 0 ≤ (i : Int) ∧ (i : Int) < (out.length : Int) by omega), wrap_succ (show i < 9223372036854775807 by omega), id])
    p (by omega)
  refine key.trans ?_
  rw [List.map_id]
theorem laws_toTenant_eq {p : Nat} (hp : maxLen < p) (x : (Ty.T TTenant)) (hw : wt TTenant x ≤ 1048576) : laws_toTenant_p p x = some (x, ()) := by
  rfl
theorem laws_toTenantS_eq {p : Nat} (hp : maxLen < p) (x : (List (Ty.T TTenant))) (hw : wt (.slice TTenant) x ≤ 1048576) : laws_toTenantS_p p x = some (x, ()) := by
  unfold laws_toTenantS_p
  have hm : maxLen = 9223372036854775807 := rfl
  have hl := wt_len (e := TTenant) x
  rw [if_pos (by refine ⟨?_, ?_, ?_, ?_⟩ <;> omega), Int.toNat_natCast]
  have key := to_loop x id (Ty.zero TTenant) (fun q i out => laws_toTenantS_l0_go p x q i out (fun o => some (o, ()))) (fun o => some (o, ()))
    (fun q out => by simp only [laws_toTenantS_l0_go, laws_toTenantS_l0_r, dlt_end, cond_false])
    (fun q i y out hg ho => by
      have hi := lt_of_get hg
      simp only [laws_toTenantS_l0_go, laws_toTenantS_l0_r, dlt_get hg, cond_true, if_pos (Int.natCast_nonneg i), Int.toNat_natCast, hg, Option.bind_some, laws_toTenant_eq hp y (by have := wt_mem (e := TTenant) hg; omega), if_pos (show 0 ≤ (i : Int) ∧ (i : Int) < (out.length : Int) by omega), wrap_succ (show i < 9223372036854775807 by omega), id])
    p (by omega)
  refine key.trans ?_
  rw [List.map_id]
theorem laws_toDuty_eq {p : Nat} (hp : maxLen < p) (x : (Ty.T TDuty)) (hw : wt TDuty x ≤ 1048576) : laws_toDuty_p p x = some (x, ()) := by
  rfl
theorem laws_toDutyS_eq {p : Nat} (hp : maxLen < p) (x : (List (Ty.T TDuty))) (hw : wt (.slice TDuty) x ≤ 1048576) : laws_toDutyS_p p x = some (x, ()) := by
  unfold laws_toDutyS_p
  have hm : maxLen = 9223372036854775807 := rfl
  have hl := wt_len (e := TDuty) x
  rw [if_pos (by refine ⟨?_, ?_, ?_, ?_⟩ <;> omega), Int.toNat_natCast]
  have key := to_loop x id (Ty.zero TDuty) (fun q i out => laws_toDutyS_l0_go p x q i out (fun o => some (o, ()))) (fun o => some (o, ()))
    (fun q out => by simp only [laws_toDutyS_l0_go, laws_toDutyS_l0_r, dlt_end, cond_false])
    (fun q i y out hg ho => by
      have hi := lt_of_get hg
      simp only [laws_toDutyS_l0_go, laws_toDutyS_l0_r, dlt_get hg, cond_true, if_pos (Int.natCast_nonneg i), Int.toNat_natCast, hg, Option.bind_some, laws_toDuty_eq hp y (by have := wt_mem (e := TDuty) hg; omega), if_pos (show 0 ≤ (i : Int) ∧ (i : Int) < (out.length : Int) by omega), wrap_succ (show i < 9223372036854775807 by omega), id])
    p (by omega)
  refine key.trans ?_
  rw [List.map_id]
theorem laws_toDesk_eq {p : Nat} (hp : maxLen < p) (x : (Ty.T TDesk)) (hw : wt TDesk x ≤ 1048576) : laws_toDesk_p p x = some (x, ()) := by
  have hz : wt TDesk x = (wt TNetwork x.1 + (wt (.slice (.int .i64)) x.2.1 + (wt (.slice TValve) x.2.2.1 + (wt (.slice TPump) x.2.2.2.1 + (wt (.slice TSubstation) x.2.2.2.2.1 + (0 + (wt (.slice TFuel) x.2.2.2.2.2.2.1 + (wt (.slice TFuel) x.2.2.2.2.2.2.2.1 + (wt (.slice TTenant) x.2.2.2.2.2.2.2.2.1 + wt (.slice TDuty) x.2.2.2.2.2.2.2.2.2))))))))) := rfl
  rw [hz] at hw
  simp only [laws_toDesk_p, laws_toNetwork_eq hp x.1 (by omega), laws_toInt64S_eq hp x.2.1 (by omega), laws_toValveS_eq hp x.2.2.1 (by omega), laws_toPumpS_eq hp x.2.2.2.1 (by omega), laws_toSubstationS_eq hp x.2.2.2.2.1 (by omega), laws_toTank_eq hp x.2.2.2.2.2.1 (show 0 ≤ 1048576 by omega), laws_toFuelS_eq hp x.2.2.2.2.2.2.1 (by omega), laws_toRepairS_eq hp x.2.2.2.2.2.2.2.1 (by omega), laws_toTenantS_eq hp x.2.2.2.2.2.2.2.2.1 (by omega), laws_toDutyS_eq hp x.2.2.2.2.2.2.2.2.2 (by omega), Option.bind_some]
theorem laws_eqInt64S_eq {p : Nat} (hp : maxLen < p) (x y : (List Int)) (hw : wt (.slice (.int .i64)) x ≤ 1048576) : laws_eqInt64S_p p x y = some (tbeq (.slice (.int .i64)) x y, ()) := by
  unfold laws_eqInt64S_p
  have hm : maxLen = 9223372036854775807 := rfl
  have hl := wt_len (e := (.int .i64)) x
  show _ = some (lbeq (tbeq (.int .i64)) x y, ())
  cases hn : ((x.length : Int) != (y.length : Int)) with
  | true => rw [cond_true, len_ne _ hn]
  | false =>
    rw [cond_false]
    have hlen := len_eq hn
    have key := eq_loop x y (tbeq (.int .i64)) (fun q i => laws_eqInt64S_l0_go p x y q i (fun o => some (o, ())) (fun _ => some (true, ()))) (some (false, ())) (some (true, ())) hlen
      (fun q => by simp only [laws_eqInt64S_l0_go, laws_eqInt64S_l0_r, dlt_end, cond_false])
      (fun q i a b hg hg2 => by
        have hi := lt_of_get hg
        simp only [laws_eqInt64S_l0_go, laws_eqInt64S_l0_r, dlt_get hg, cond_true, if_pos (Int.natCast_nonneg i), Int.toNat_natCast, hg, hg2, Option.bind_some, wrap_succ (show i < 9223372036854775807 by omega)]
        exact cond_not _ _ _)
      p (by omega)
    refine key.trans ?_
    cases lbeq (tbeq (.int .i64)) x y <;> rfl
theorem laws_eqPipe_eq {p : Nat} (hp : maxLen < p) (x y : (Ty.T TPipe)) (hw : wt TPipe x ≤ 1048576) : laws_eqPipe_p p x y = some (tbeq TPipe x y, ()) := by
  unfold laws_eqPipe_p
  refine Eq.trans (eq_seq _ _ _ (eq_seq _ _ _ (eq_seq _ _ _ (eq_seq _ _ _ (eq_seq _ _ _ (eq_seq _ _ _ rfl)))))) ?_
  simp only [TPipe, tbeq, Bool.and_true]
theorem laws_eqPipeS_eq {p : Nat} (hp : maxLen < p) (x y : (List (Ty.T TPipe))) (hw : wt (.slice TPipe) x ≤ 1048576) : laws_eqPipeS_p p x y = some (tbeq (.slice TPipe) x y, ()) := by
  unfold laws_eqPipeS_p
  have hm : maxLen = 9223372036854775807 := rfl
  have hl := wt_len (e := TPipe) x
  show _ = some (lbeq (tbeq TPipe) x y, ())
  cases hn : ((x.length : Int) != (y.length : Int)) with
  | true => rw [cond_true, len_ne _ hn]
  | false =>
    rw [cond_false]
    have hlen := len_eq hn
    have key := eq_loop x y (tbeq TPipe) (fun q i => laws_eqPipeS_l0_go p x y q i (fun o => some (o, ())) (fun _ => some (true, ()))) (some (false, ())) (some (true, ())) hlen
      (fun q => by simp only [laws_eqPipeS_l0_go, laws_eqPipeS_l0_r, dlt_end, cond_false])
      (fun q i a b hg hg2 => by
        have hi := lt_of_get hg
        simp only [laws_eqPipeS_l0_go, laws_eqPipeS_l0_r, dlt_get hg, cond_true, if_pos (Int.natCast_nonneg i), Int.toNat_natCast, hg, hg2, Option.bind_some, laws_eqPipe_eq hp a b (by have := wt_mem (e := TPipe) hg; omega), wrap_succ (show i < 9223372036854775807 by omega)]
        cases tbeq TPipe a b <;> rfl)
      p (by omega)
    refine key.trans ?_
    cases lbeq (tbeq TPipe) x y <;> rfl
theorem laws_eqNetwork_eq {p : Nat} (hp : maxLen < p) (x y : (Ty.T TNetwork)) (hw : wt TNetwork x ≤ 1048576) : laws_eqNetwork_p p x y = some (tbeq TNetwork x y, ()) := by
  have hz : wt TNetwork x = (wt (.slice (.int .i64)) x.1 + wt (.slice TPipe) x.2) := rfl
  rw [hz] at hw
  unfold laws_eqNetwork_p
  simp only [laws_eqInt64S_eq hp x.1 y.1 (by omega), laws_eqPipeS_eq hp x.2 y.2 (by omega), Option.bind_some]
  refine Eq.trans (eq_seq _ _ _ (eq_seq _ _ _ rfl)) ?_
  simp only [TNetwork, tbeq, Bool.and_true]
theorem laws_eqValve_eq {p : Nat} (hp : maxLen < p) (x y : (Ty.T TValve)) (hw : wt TValve x ≤ 1048576) : laws_eqValve_p p x y = some (tbeq TValve x y, ()) := by
  unfold laws_eqValve_p
  refine Eq.trans (eq_seq _ _ _ (eq_seq _ _ _ (eq_seq _ _ _ rfl))) ?_
  simp only [TValve, tbeq, Bool.and_true]
theorem laws_eqValveS_eq {p : Nat} (hp : maxLen < p) (x y : (List (Ty.T TValve))) (hw : wt (.slice TValve) x ≤ 1048576) : laws_eqValveS_p p x y = some (tbeq (.slice TValve) x y, ()) := by
  unfold laws_eqValveS_p
  have hm : maxLen = 9223372036854775807 := rfl
  have hl := wt_len (e := TValve) x
  show _ = some (lbeq (tbeq TValve) x y, ())
  cases hn : ((x.length : Int) != (y.length : Int)) with
  | true => rw [cond_true, len_ne _ hn]
  | false =>
    rw [cond_false]
    have hlen := len_eq hn
    have key := eq_loop x y (tbeq TValve) (fun q i => laws_eqValveS_l0_go p x y q i (fun o => some (o, ())) (fun _ => some (true, ()))) (some (false, ())) (some (true, ())) hlen
      (fun q => by simp only [laws_eqValveS_l0_go, laws_eqValveS_l0_r, dlt_end, cond_false])
      (fun q i a b hg hg2 => by
        have hi := lt_of_get hg
        simp only [laws_eqValveS_l0_go, laws_eqValveS_l0_r, dlt_get hg, cond_true, if_pos (Int.natCast_nonneg i), Int.toNat_natCast, hg, hg2, Option.bind_some, laws_eqValve_eq hp a b (by have := wt_mem (e := TValve) hg; omega), wrap_succ (show i < 9223372036854775807 by omega)]
        cases tbeq TValve a b <;> rfl)
      p (by omega)
    refine key.trans ?_
    cases lbeq (tbeq TValve) x y <;> rfl
theorem laws_eqInt64SS_eq {p : Nat} (hp : maxLen < p) (x y : (List (List Int))) (hw : wt (.slice (.slice (.int .i64))) x ≤ 1048576) : laws_eqInt64SS_p p x y = some (tbeq (.slice (.slice (.int .i64))) x y, ()) := by
  unfold laws_eqInt64SS_p
  have hm : maxLen = 9223372036854775807 := rfl
  have hl := wt_len (e := (.slice (.int .i64))) x
  show _ = some (lbeq (tbeq (.slice (.int .i64))) x y, ())
  cases hn : ((x.length : Int) != (y.length : Int)) with
  | true => rw [cond_true, len_ne _ hn]
  | false =>
    rw [cond_false]
    have hlen := len_eq hn
    have key := eq_loop x y (tbeq (.slice (.int .i64))) (fun q i => laws_eqInt64SS_l0_go p x y q i (fun o => some (o, ())) (fun _ => some (true, ()))) (some (false, ())) (some (true, ())) hlen
      (fun q => by simp only [laws_eqInt64SS_l0_go, laws_eqInt64SS_l0_r, dlt_end, cond_false])
      (fun q i a b hg hg2 => by
        have hi := lt_of_get hg
        simp only [laws_eqInt64SS_l0_go, laws_eqInt64SS_l0_r, dlt_get hg, cond_true, if_pos (Int.natCast_nonneg i), Int.toNat_natCast, hg, hg2, Option.bind_some, laws_eqInt64S_eq hp a b (by have := wt_mem (e := (.slice (.int .i64))) hg; omega), wrap_succ (show i < 9223372036854775807 by omega)]
        cases tbeq (.slice (.int .i64)) a b <;> rfl)
      p (by omega)
    refine key.trans ?_
    cases lbeq (tbeq (.slice (.int .i64))) x y <;> rfl
theorem laws_eqPump_eq {p : Nat} (hp : maxLen < p) (x y : (Ty.T TPump)) (hw : wt TPump x ≤ 1048576) : laws_eqPump_p p x y = some (tbeq TPump x y, ()) := by
  have hz : wt TPump x = (x.1.size + wt (.slice (.slice (.int .i64))) x.2) := rfl
  rw [hz] at hw
  unfold laws_eqPump_p
  simp only [laws_eqInt64SS_eq hp x.2 y.2 (by omega), Option.bind_some]
  refine Eq.trans (eq_seq _ _ _ (eq_seq _ _ _ rfl)) ?_
  simp only [TPump, tbeq, Bool.and_true]
theorem laws_eqPumpS_eq {p : Nat} (hp : maxLen < p) (x y : (List (Ty.T TPump))) (hw : wt (.slice TPump) x ≤ 1048576) : laws_eqPumpS_p p x y = some (tbeq (.slice TPump) x y, ()) := by
  unfold laws_eqPumpS_p
  have hm : maxLen = 9223372036854775807 := rfl
  have hl := wt_len (e := TPump) x
  show _ = some (lbeq (tbeq TPump) x y, ())
  cases hn : ((x.length : Int) != (y.length : Int)) with
  | true => rw [cond_true, len_ne _ hn]
  | false =>
    rw [cond_false]
    have hlen := len_eq hn
    have key := eq_loop x y (tbeq TPump) (fun q i => laws_eqPumpS_l0_go p x y q i (fun o => some (o, ())) (fun _ => some (true, ()))) (some (false, ())) (some (true, ())) hlen
      (fun q => by simp only [laws_eqPumpS_l0_go, laws_eqPumpS_l0_r, dlt_end, cond_false])
      (fun q i a b hg hg2 => by
        have hi := lt_of_get hg
        simp only [laws_eqPumpS_l0_go, laws_eqPumpS_l0_r, dlt_get hg, cond_true, if_pos (Int.natCast_nonneg i), Int.toNat_natCast, hg, hg2, Option.bind_some, laws_eqPump_eq hp a b (by have := wt_mem (e := TPump) hg; omega), wrap_succ (show i < 9223372036854775807 by omega)]
        cases tbeq TPump a b <;> rfl)
      p (by omega)
    refine key.trans ?_
    cases lbeq (tbeq TPump) x y <;> rfl
theorem laws_eqSubstation_eq {p : Nat} (hp : maxLen < p) (x y : (Ty.T TSubstation)) (hw : wt TSubstation x ≤ 1048576) : laws_eqSubstation_p p x y = some (tbeq TSubstation x y, ()) := by
  unfold laws_eqSubstation_p
  refine Eq.trans (eq_seq _ _ _ (eq_seq _ _ _ (eq_seq _ _ _ (eq_seq _ _ _ (eq_seq _ _ _ rfl))))) ?_
  simp only [TSubstation, tbeq, Bool.and_true]
theorem laws_eqSubstationS_eq {p : Nat} (hp : maxLen < p) (x y : (List (Ty.T TSubstation))) (hw : wt (.slice TSubstation) x ≤ 1048576) : laws_eqSubstationS_p p x y = some (tbeq (.slice TSubstation) x y, ()) := by
  unfold laws_eqSubstationS_p
  have hm : maxLen = 9223372036854775807 := rfl
  have hl := wt_len (e := TSubstation) x
  show _ = some (lbeq (tbeq TSubstation) x y, ())
  cases hn : ((x.length : Int) != (y.length : Int)) with
  | true => rw [cond_true, len_ne _ hn]
  | false =>
    rw [cond_false]
    have hlen := len_eq hn
    have key := eq_loop x y (tbeq TSubstation) (fun q i => laws_eqSubstationS_l0_go p x y q i (fun o => some (o, ())) (fun _ => some (true, ()))) (some (false, ())) (some (true, ())) hlen
      (fun q => by simp only [laws_eqSubstationS_l0_go, laws_eqSubstationS_l0_r, dlt_end, cond_false])
      (fun q i a b hg hg2 => by
        have hi := lt_of_get hg
        simp only [laws_eqSubstationS_l0_go, laws_eqSubstationS_l0_r, dlt_get hg, cond_true, if_pos (Int.natCast_nonneg i), Int.toNat_natCast, hg, hg2, Option.bind_some, laws_eqSubstation_eq hp a b (by have := wt_mem (e := TSubstation) hg; omega), wrap_succ (show i < 9223372036854775807 by omega)]
        cases tbeq TSubstation a b <;> rfl)
      p (by omega)
    refine key.trans ?_
    cases lbeq (tbeq TSubstation) x y <;> rfl
theorem laws_eqTank_eq {p : Nat} (hp : maxLen < p) (x y : (Ty.T TTank)) (hw : wt TTank x ≤ 1048576) : laws_eqTank_p p x y = some (tbeq TTank x y, ()) := by
  unfold laws_eqTank_p
  refine Eq.trans (eq_seq _ _ _ (eq_seq _ _ _ (eq_seq _ _ _ rfl))) ?_
  simp only [TTank, tbeq, Bool.and_true]
theorem laws_eqFuel_eq {p : Nat} (hp : maxLen < p) (x y : (Ty.T TFuel)) (hw : wt TFuel x ≤ 1048576) : laws_eqFuel_p p x y = some (tbeq TFuel x y, ()) := by
  unfold laws_eqFuel_p
  refine Eq.trans (eq_seq _ _ _ (eq_seq _ _ _ (eq_seq _ _ _ (eq_seq _ _ _ rfl)))) ?_
  simp only [TFuel, tbeq, Bool.and_true]
theorem laws_eqFuelS_eq {p : Nat} (hp : maxLen < p) (x y : (List (Ty.T TFuel))) (hw : wt (.slice TFuel) x ≤ 1048576) : laws_eqFuelS_p p x y = some (tbeq (.slice TFuel) x y, ()) := by
  unfold laws_eqFuelS_p
  have hm : maxLen = 9223372036854775807 := rfl
  have hl := wt_len (e := TFuel) x
  show _ = some (lbeq (tbeq TFuel) x y, ())
  cases hn : ((x.length : Int) != (y.length : Int)) with
  | true => rw [cond_true, len_ne _ hn]
  | false =>
    rw [cond_false]
    have hlen := len_eq hn
    have key := eq_loop x y (tbeq TFuel) (fun q i => laws_eqFuelS_l0_go p x y q i (fun o => some (o, ())) (fun _ => some (true, ()))) (some (false, ())) (some (true, ())) hlen
      (fun q => by simp only [laws_eqFuelS_l0_go, laws_eqFuelS_l0_r, dlt_end, cond_false])
      (fun q i a b hg hg2 => by
        have hi := lt_of_get hg
        simp only [laws_eqFuelS_l0_go, laws_eqFuelS_l0_r, dlt_get hg, cond_true, if_pos (Int.natCast_nonneg i), Int.toNat_natCast, hg, hg2, Option.bind_some, laws_eqFuel_eq hp a b (by have := wt_mem (e := TFuel) hg; omega), wrap_succ (show i < 9223372036854775807 by omega)]
        cases tbeq TFuel a b <;> rfl)
      p (by omega)
    refine key.trans ?_
    cases lbeq (tbeq TFuel) x y <;> rfl
theorem laws_eqRepair_eq {p : Nat} (hp : maxLen < p) (x y : (Ty.T TFuel)) (hw : wt TFuel x ≤ 1048576) : laws_eqRepair_p p x y = some (tbeq TFuel x y, ()) := by
  unfold laws_eqRepair_p
  refine Eq.trans (eq_seq _ _ _ (eq_seq _ _ _ (eq_seq _ _ _ (eq_seq _ _ _ rfl)))) ?_
  simp only [TFuel, tbeq, Bool.and_true]
theorem laws_eqRepairS_eq {p : Nat} (hp : maxLen < p) (x y : (List (Ty.T TFuel))) (hw : wt (.slice TFuel) x ≤ 1048576) : laws_eqRepairS_p p x y = some (tbeq (.slice TFuel) x y, ()) := by
  unfold laws_eqRepairS_p
  have hm : maxLen = 9223372036854775807 := rfl
  have hl := wt_len (e := TFuel) x
  show _ = some (lbeq (tbeq TFuel) x y, ())
  cases hn : ((x.length : Int) != (y.length : Int)) with
  | true => rw [cond_true, len_ne _ hn]
  | false =>
    rw [cond_false]
    have hlen := len_eq hn
    have key := eq_loop x y (tbeq TFuel) (fun q i => laws_eqRepairS_l0_go p x y q i (fun o => some (o, ())) (fun _ => some (true, ()))) (some (false, ())) (some (true, ())) hlen
      (fun q => by simp only [laws_eqRepairS_l0_go, laws_eqRepairS_l0_r, dlt_end, cond_false])
      (fun q i a b hg hg2 => by
        have hi := lt_of_get hg
        simp only [laws_eqRepairS_l0_go, laws_eqRepairS_l0_r, dlt_get hg, cond_true, if_pos (Int.natCast_nonneg i), Int.toNat_natCast, hg, hg2, Option.bind_some, laws_eqRepair_eq hp a b (by have := wt_mem (e := TFuel) hg; omega), wrap_succ (show i < 9223372036854775807 by omega)]
        cases tbeq TFuel a b <;> rfl)
      p (by omega)
    refine key.trans ?_
    cases lbeq (tbeq TFuel) x y <;> rfl
theorem laws_eqTenant_eq {p : Nat} (hp : maxLen < p) (x y : (Ty.T TTenant)) (hw : wt TTenant x ≤ 1048576) : laws_eqTenant_p p x y = some (tbeq TTenant x y, ()) := by
  unfold laws_eqTenant_p
  refine Eq.trans (eq_seq _ _ _ (eq_seq _ _ _ (eq_seq _ _ _ rfl))) ?_
  simp only [TTenant, tbeq, Bool.and_true]
theorem laws_eqTenantS_eq {p : Nat} (hp : maxLen < p) (x y : (List (Ty.T TTenant))) (hw : wt (.slice TTenant) x ≤ 1048576) : laws_eqTenantS_p p x y = some (tbeq (.slice TTenant) x y, ()) := by
  unfold laws_eqTenantS_p
  have hm : maxLen = 9223372036854775807 := rfl
  have hl := wt_len (e := TTenant) x
  show _ = some (lbeq (tbeq TTenant) x y, ())
  cases hn : ((x.length : Int) != (y.length : Int)) with
  | true => rw [cond_true, len_ne _ hn]
  | false =>
    rw [cond_false]
    have hlen := len_eq hn
    have key := eq_loop x y (tbeq TTenant) (fun q i => laws_eqTenantS_l0_go p x y q i (fun o => some (o, ())) (fun _ => some (true, ()))) (some (false, ())) (some (true, ())) hlen
      (fun q => by simp only [laws_eqTenantS_l0_go, laws_eqTenantS_l0_r, dlt_end, cond_false])
      (fun q i a b hg hg2 => by
        have hi := lt_of_get hg
        simp only [laws_eqTenantS_l0_go, laws_eqTenantS_l0_r, dlt_get hg, cond_true, if_pos (Int.natCast_nonneg i), Int.toNat_natCast, hg, hg2, Option.bind_some, laws_eqTenant_eq hp a b (by have := wt_mem (e := TTenant) hg; omega), wrap_succ (show i < 9223372036854775807 by omega)]
        cases tbeq TTenant a b <;> rfl)
      p (by omega)
    refine key.trans ?_
    cases lbeq (tbeq TTenant) x y <;> rfl
theorem laws_eqDuty_eq {p : Nat} (hp : maxLen < p) (x y : (Ty.T TDuty)) (hw : wt TDuty x ≤ 1048576) : laws_eqDuty_p p x y = some (tbeq TDuty x y, ()) := by
  unfold laws_eqDuty_p
  refine Eq.trans (eq_seq _ _ _ (eq_seq _ _ _ (eq_seq _ _ _ (eq_seq _ _ _ rfl)))) ?_
  simp only [TDuty, tbeq, Bool.and_true]
theorem laws_eqDutyS_eq {p : Nat} (hp : maxLen < p) (x y : (List (Ty.T TDuty))) (hw : wt (.slice TDuty) x ≤ 1048576) : laws_eqDutyS_p p x y = some (tbeq (.slice TDuty) x y, ()) := by
  unfold laws_eqDutyS_p
  have hm : maxLen = 9223372036854775807 := rfl
  have hl := wt_len (e := TDuty) x
  show _ = some (lbeq (tbeq TDuty) x y, ())
  cases hn : ((x.length : Int) != (y.length : Int)) with
  | true => rw [cond_true, len_ne _ hn]
  | false =>
    rw [cond_false]
    have hlen := len_eq hn
    have key := eq_loop x y (tbeq TDuty) (fun q i => laws_eqDutyS_l0_go p x y q i (fun o => some (o, ())) (fun _ => some (true, ()))) (some (false, ())) (some (true, ())) hlen
      (fun q => by simp only [laws_eqDutyS_l0_go, laws_eqDutyS_l0_r, dlt_end, cond_false])
      (fun q i a b hg hg2 => by
        have hi := lt_of_get hg
        simp only [laws_eqDutyS_l0_go, laws_eqDutyS_l0_r, dlt_get hg, cond_true, if_pos (Int.natCast_nonneg i), Int.toNat_natCast, hg, hg2, Option.bind_some, laws_eqDuty_eq hp a b (by have := wt_mem (e := TDuty) hg; omega), wrap_succ (show i < 9223372036854775807 by omega)]
        cases tbeq TDuty a b <;> rfl)
      p (by omega)
    refine key.trans ?_
    cases lbeq (tbeq TDuty) x y <;> rfl
theorem laws_eqDesk_eq {p : Nat} (hp : maxLen < p) (x y : (Ty.T TDesk)) (hw : wt TDesk x ≤ 1048576) : laws_eqDesk_p p x y = some (tbeq TDesk x y, ()) := by
  have hz : wt TDesk x = (wt TNetwork x.1 + (wt (.slice (.int .i64)) x.2.1 + (wt (.slice TValve) x.2.2.1 + (wt (.slice TPump) x.2.2.2.1 + (wt (.slice TSubstation) x.2.2.2.2.1 + (0 + (wt (.slice TFuel) x.2.2.2.2.2.2.1 + (wt (.slice TFuel) x.2.2.2.2.2.2.2.1 + (wt (.slice TTenant) x.2.2.2.2.2.2.2.2.1 + wt (.slice TDuty) x.2.2.2.2.2.2.2.2.2))))))))) := rfl
  rw [hz] at hw
  unfold laws_eqDesk_p
  simp only [laws_eqNetwork_eq hp x.1 y.1 (by omega), laws_eqInt64S_eq hp x.2.1 y.2.1 (by omega), laws_eqValveS_eq hp x.2.2.1 y.2.2.1 (by omega), laws_eqPumpS_eq hp x.2.2.2.1 y.2.2.2.1 (by omega), laws_eqSubstationS_eq hp x.2.2.2.2.1 y.2.2.2.2.1 (by omega), laws_eqTank_eq hp x.2.2.2.2.2.1 y.2.2.2.2.2.1 (by exact Nat.zero_le _), laws_eqFuelS_eq hp x.2.2.2.2.2.2.1 y.2.2.2.2.2.2.1 (by omega), laws_eqRepairS_eq hp x.2.2.2.2.2.2.2.1 y.2.2.2.2.2.2.2.1 (by omega), laws_eqTenantS_eq hp x.2.2.2.2.2.2.2.2.1 y.2.2.2.2.2.2.2.2.1 (by omega), laws_eqDutyS_eq hp x.2.2.2.2.2.2.2.2.2 y.2.2.2.2.2.2.2.2.2 (by omega), Option.bind_some]
  refine Eq.trans (eq_seq _ _ _ (eq_seq _ _ _ (eq_seq _ _ _ (eq_seq _ _ _ (eq_seq _ _ _ (eq_seq _ _ _ (eq_seq _ _ _ (eq_seq _ _ _ (eq_seq _ _ _ (eq_seq _ _ _ rfl)))))))))) ?_
  simp only [TDesk, tbeq, Bool.and_true]
end Go.Proofs.YtgmcefnlcalagaaGreat.W
