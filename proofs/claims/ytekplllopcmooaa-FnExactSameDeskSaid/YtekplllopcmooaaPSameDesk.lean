/- The reference's and the program's comparison of desks are the comparison of trees; the law in plain Lean. No condition. -/
import Derived.Test.YtekplllopcmooaaPSame
namespace Go.Proofs.Ytekplllopcmooaa.W
open Go Go.RowKit Go.Proofs.Ytekplllopcmooaa.AM
set_option linter.unusedVariables false
set_option linter.unusedSimpArgs false

theorem spec_SameNetwork_eq {p : Nat} (hp : maxLen < p) (x y : Ty.T TNetwork) (hw : wt TNetwork x ≤ 1048576) : spec_SameNetwork_p p x y = some (tbeq TNetwork x y, ()) := by
  have hz : wt TNetwork x = wt (.slice (.int .i64)) x.1 + wt (.slice TPipe) x.2 := rfl
  have hl := wt_len (e := TPipe) x.2
  unfold spec_SameNetwork_p
  rw [spec_l00Same_eq hp x.1 y.1 (by omega)]
  show _ = some (tbeq (.slice (.int .i64)) x.1 y.1 && lbeq (tbeq TPipe) x.2 y.2, ())
  simp only [Option.bind_some]
  cases tbeq (.slice (.int .i64)) x.1 y.1 with
  | false => rfl
  | true =>
    simp only [Bool.not_true, cond_false, Bool.true_and]
    cases hn : ((x.2.length : Int) != (y.2.length : Int)) with
    | true => rw [cond_true, len_ne _ hn]
    | false => rw [cond_false, spec_SameNetwork_l0_eq hp x.2 y.2 (by omega) (len_eq hn)]; cases lbeq (tbeq TPipe) x.2 y.2 <;> rfl

theorem impl_SameNetwork_eq {p : Nat} (hp : maxLen < p) (x y : Ty.T TNetwork) (hw : wt TNetwork x ≤ 1048576) : impl_SameNetwork_p p x y = some (tbeq TNetwork x y, ()) := by
  have hz : wt TNetwork x = wt (.slice (.int .i64)) x.1 + wt (.slice TPipe) x.2 := rfl
  unfold impl_SameNetwork_p
  rw [slices_Equal_int64_int64_eq hp x.1 y.1 (by omega)]
  simp only [Option.bind_some, slices_Equal_impl_Pipe_impl_Pipe_eq hp x.2 y.2 (by omega)]
  show _ = some (tbeq (.slice (.int .i64)) x.1 y.1 && tbeq (.slice TPipe) x.2 y.2, ())
  cases tbeq (.slice (.int .i64)) x.1 y.1 <;> rfl

theorem desk_wt (x : Ty.T TDesk) : wt TDesk x = wt TNetwork x.1 + (wt (.slice (.int .i64)) x.2.1 + (wt (.slice TValve) x.2.2.1 + (wt (.slice TPump) x.2.2.2.1 + (wt (.slice TSubstation) x.2.2.2.2.1 + (0 + (wt (.slice TFuel) x.2.2.2.2.2.2.1 + (wt (.slice TFuel) x.2.2.2.2.2.2.2.1 + (wt (.slice TTenant) x.2.2.2.2.2.2.2.2.1 + wt (.slice TDuty) x.2.2.2.2.2.2.2.2.2)))))))) := rfl

theorem desk_eq (x y : Ty.T TDesk) : tbeq TDesk x y = (tbeq TNetwork x.1 y.1 && (tbeq (.slice (.int .i64)) x.2.1 y.2.1 && (lbeq (tbeq TValve) x.2.2.1 y.2.2.1 && (lbeq (tbeq TPump) x.2.2.2.1 y.2.2.2.1 && (lbeq (tbeq TSubstation) x.2.2.2.2.1 y.2.2.2.2.1 && (tbeq TTank x.2.2.2.2.2.1 y.2.2.2.2.2.1 && (lbeq (tbeq TFuel) x.2.2.2.2.2.2.1 y.2.2.2.2.2.2.1 && (lbeq (tbeq TFuel) x.2.2.2.2.2.2.2.1 y.2.2.2.2.2.2.2.1 && (lbeq (tbeq TTenant) x.2.2.2.2.2.2.2.2.1 y.2.2.2.2.2.2.2.2.1 && lbeq (tbeq TDuty) x.2.2.2.2.2.2.2.2.2 y.2.2.2.2.2.2.2.2.2))))))))) := rfl

theorem spec_SameDesk_eq {p : Nat} (hp : maxLen < p) (x y : Ty.T TDesk) (hw : wt TDesk x ≤ 1048576) : spec_SameDesk_p p x y = some (tbeq TDesk x y, ()) := by
  have hz := desk_wt x
  rw [desk_eq]
  have ht : ((x.2.2.2.2.2.1.1 == y.2.2.2.2.2.1.1) && ((x.2.2.2.2.2.1.2.1 == y.2.2.2.2.2.1.2.1) && ((x.2.2.2.2.2.1.2.2 == y.2.2.2.2.2.1.2.2) && true))) = tbeq TTank x.2.2.2.2.2.1 y.2.2.2.2.2.1 := by simp only [TTank, tbeq, Bool.and_true]
  have l1 := wt_len (e := TValve) x.2.2.1
  have l2 := wt_len (e := TPump) x.2.2.2.1
  have l3 := wt_len (e := TSubstation) x.2.2.2.2.1
  have l4 := wt_len (e := TFuel) x.2.2.2.2.2.2.1
  have l5 := wt_len (e := TFuel) x.2.2.2.2.2.2.2.1
  have l6 := wt_len (e := TTenant) x.2.2.2.2.2.2.2.2.1
  have l7 := wt_len (e := TDuty) x.2.2.2.2.2.2.2.2.2
  unfold spec_SameDesk_p
  rw [ht, spec_SameNetwork_eq hp x.1 y.1 (by omega)]
  simp only [Option.bind_some, spec_l00Same_eq hp x.2.1 y.2.1 (by omega)]
  cases tbeq TNetwork x.1 y.1
  · rfl
  cases tbeq (.slice (.int .i64)) x.2.1 y.2.1
  · rfl
  simp only [Bool.not_true, cond_false, Bool.true_and]
  cases tbeq TTank x.2.2.2.2.2.1 y.2.2.2.2.2.1
  · simp only [Bool.not_false, cond_true, Bool.false_and, Bool.and_false]
  simp only [Bool.not_true, cond_false, Bool.true_and]
  cases h1 : ((x.2.2.1.length : Int) != (y.2.2.1.length : Int))
  case true => rw [cond_true, len_ne _ h1]; rfl
  cases h2 : ((x.2.2.2.1.length : Int) != (y.2.2.2.1.length : Int))
  case true => rw [cond_false, cond_true, len_ne _ h2]; simp only [Bool.false_and, Bool.and_false]
  cases h3 : ((x.2.2.2.2.1.length : Int) != (y.2.2.2.2.1.length : Int))
  case true => rw [cond_false, cond_false, cond_true, len_ne _ h3]; simp only [Bool.false_and, Bool.and_false]
  cases h4 : ((x.2.2.2.2.2.2.1.length : Int) != (y.2.2.2.2.2.2.1.length : Int))
  case true => rw [cond_false, cond_false, cond_false, cond_true, len_ne _ h4]; simp only [Bool.false_and, Bool.and_false]
  cases h5 : ((x.2.2.2.2.2.2.2.1.length : Int) != (y.2.2.2.2.2.2.2.1.length : Int))
  case true => rw [cond_false, cond_false, cond_false, cond_false, cond_true, len_ne _ h5]; simp only [Bool.false_and, Bool.and_false]
  cases h6 : ((x.2.2.2.2.2.2.2.2.1.length : Int) != (y.2.2.2.2.2.2.2.2.1.length : Int))
  case true => rw [cond_false, cond_false, cond_false, cond_false, cond_false, cond_true, len_ne _ h6]; simp only [Bool.false_and, Bool.and_false]
  cases h7 : ((x.2.2.2.2.2.2.2.2.2.length : Int) != (y.2.2.2.2.2.2.2.2.2.length : Int))
  case true => rw [cond_false, cond_false, cond_false, cond_false, cond_false, cond_false, cond_true, len_ne _ h7]; simp only [Bool.false_and, Bool.and_false]
  simp only [cond_false]
  rw [spec_SameDesk_l0_eq hp _ _ (by omega) (len_eq h1), spec_SameDesk_l1_eq hp _ _ (by omega) (len_eq h2), spec_SameDesk_l2_eq hp _ _ (by omega) (len_eq h3), spec_SameDesk_l3_eq hp _ _ (by omega) (len_eq h4), spec_SameDesk_l4_eq hp _ _ (by omega) (len_eq h5), spec_SameDesk_l5_eq hp _ _ (by omega) (len_eq h6), spec_SameDesk_l6_eq hp _ _ (by omega) (len_eq h7)]
  cases lbeq (tbeq TValve) x.2.2.1 y.2.2.1
  · rfl
  cases lbeq (tbeq TPump) x.2.2.2.1 y.2.2.2.1
  · rfl
  cases lbeq (tbeq TSubstation) x.2.2.2.2.1 y.2.2.2.2.1
  · rfl
  cases lbeq (tbeq TFuel) x.2.2.2.2.2.2.1 y.2.2.2.2.2.2.1
  · rfl
  cases lbeq (tbeq TFuel) x.2.2.2.2.2.2.2.1 y.2.2.2.2.2.2.2.1
  · rfl
  cases lbeq (tbeq TTenant) x.2.2.2.2.2.2.2.2.1 y.2.2.2.2.2.2.2.2.1
  · rfl
  cases lbeq (tbeq TDuty) x.2.2.2.2.2.2.2.2.2 y.2.2.2.2.2.2.2.2.2 <;> rfl

theorem impl_SameDesk_eq {p : Nat} (hp : maxLen < p) (x y : Ty.T TDesk) (hw : wt TDesk x ≤ 1048576) : impl_SameDesk_p p x y = some (tbeq TDesk x y, ()) := by
  have hz := desk_wt x
  rw [desk_eq]
  have ht : ((x.2.2.2.2.2.1.1 == y.2.2.2.2.2.1.1) && ((x.2.2.2.2.2.1.2.1 == y.2.2.2.2.2.1.2.1) && ((x.2.2.2.2.2.1.2.2 == y.2.2.2.2.2.1.2.2) && true))) = tbeq TTank x.2.2.2.2.2.1 y.2.2.2.2.2.1 := by simp only [TTank, tbeq, Bool.and_true]
  unfold impl_SameDesk_p
  simp only [ht, Option.bind_some, impl_SameNetwork_eq hp x.1 y.1 (by omega), slices_Equal_int64_int64_eq hp x.2.1 y.2.1 (by omega), slices_Equal_impl_Valve_impl_Valve_eq hp x.2.2.1 y.2.2.1 (by omega),
    slices_Equal_impl_Substation_impl_Substation_eq hp x.2.2.2.2.1 y.2.2.2.2.1 (by omega), slices_Equal_impl_Fuel_impl_Fuel_eq hp x.2.2.2.2.2.2.1 y.2.2.2.2.2.2.1 (by omega),
    slices_Equal_impl_Repair_impl_Repair_eq hp x.2.2.2.2.2.2.2.1 y.2.2.2.2.2.2.2.1 (by omega), slices_Equal_impl_Tenant_impl_Tenant_eq hp x.2.2.2.2.2.2.2.2.1 y.2.2.2.2.2.2.2.2.1 (by omega), slices_Equal_impl_Duty_impl_Duty_eq hp x.2.2.2.2.2.2.2.2.2 y.2.2.2.2.2.2.2.2.2 (by omega)]
  show _ = some (tbeq TNetwork x.1 y.1 && (tbeq (.slice (.int .i64)) x.2.1 y.2.1 && (tbeq (.slice TValve) x.2.2.1 y.2.2.1 && (lbeq (tbeq TPump) x.2.2.2.1 y.2.2.2.1 && (tbeq (.slice TSubstation) x.2.2.2.2.1 y.2.2.2.2.1 && (tbeq TTank x.2.2.2.2.2.1 y.2.2.2.2.2.1 && (tbeq (.slice TFuel) x.2.2.2.2.2.2.1 y.2.2.2.2.2.2.1 && (tbeq (.slice TFuel) x.2.2.2.2.2.2.2.1 y.2.2.2.2.2.2.2.1 && (tbeq (.slice TTenant) x.2.2.2.2.2.2.2.2.1 y.2.2.2.2.2.2.2.2.1 && tbeq (.slice TDuty) x.2.2.2.2.2.2.2.2.2 y.2.2.2.2.2.2.2.2.2)))))))), ())
  cases tbeq TNetwork x.1 y.1
  · rfl
  cases tbeq (.slice (.int .i64)) x.2.1 y.2.1
  · rfl
  cases tbeq (.slice TValve) x.2.2.1 y.2.2.1
  · rfl
  simp only [cond_true, Bool.true_and]
  cases h2 : ((x.2.2.2.1.length : Int) != (y.2.2.2.1.length : Int))
  case true => rw [cond_true, len_ne _ h2]; rfl
  rw [cond_false, impl_SameDesk_l0_eq hp _ _ (by omega) (len_eq h2)]
  cases lbeq (tbeq TPump) x.2.2.2.1 y.2.2.2.1
  · rfl
  cases tbeq (.slice TSubstation) x.2.2.2.2.1 y.2.2.2.2.1
  · rfl
  cases tbeq TTank x.2.2.2.2.2.1 y.2.2.2.2.2.1
  · rfl
  cases tbeq (.slice TFuel) x.2.2.2.2.2.2.1 y.2.2.2.2.2.2.1
  · rfl
  cases tbeq (.slice TFuel) x.2.2.2.2.2.2.2.1 y.2.2.2.2.2.2.2.1
  · rfl
  cases tbeq (.slice TTenant) x.2.2.2.2.2.2.2.2.1 y.2.2.2.2.2.2.2.2.1
  · rfl
  cases tbeq (.slice TDuty) x.2.2.2.2.2.2.2.2.2 y.2.2.2.2.2.2.2.2.2 <;> rfl

theorem FnExactSameDesk_law (x y : Ty.T TDesk) (hx : TDesk.wf x) (hy : TDesk.wf y) : laws_FnExactSameDesk_p (maxLen + 1) x y = some true := by
  have hp : maxLen < maxLen + 1 := Nat.lt_succ_self _
  unfold laws_FnExactSameDesk_p
  rw [laws_szDesk_eq hp x hx (by omega) (by omega)]
  simp only [Option.bind_some]
  by_cases c : (1048576 : Int) < ((wt TDesk x : Nat) : Int)
  · rw [szf_big c]; rfl
  rw [szf_small (by omega), decide_eq_false (by omega), cond_false, laws_szDesk_eq hp y hy (by omega) (by omega)]
  simp only [Option.bind_some]
  by_cases c2 : (1048576 : Int) - ((wt TDesk x : Nat) : Int) < ((wt TDesk y : Nat) : Int)
  · rw [szf_big c2]; rfl
  rw [szf_small (by omega), decide_eq_false (by omega), cond_false]
  simp only [laws_toDesk_eq hp x (by omega), laws_toDesk_eq hp y (by omega), spec_SameDesk_eq hp x y (by omega), impl_SameDesk_eq hp x y (by omega), laws_eqDesk_eq hp x x (by omega), laws_eqDesk_eq hp y y (by omega), tbeq_refl, Option.bind_some]
  cases tbeq TDesk x y <;> rfl

end Go.Proofs.Ytekplllopcmooaa.W
