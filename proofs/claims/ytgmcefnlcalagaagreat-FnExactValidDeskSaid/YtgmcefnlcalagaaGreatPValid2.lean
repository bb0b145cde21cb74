/- What the reference and the program check of the lists of a desk. Printed by valid2.py. No condition. -/
import Derived.Test.YtgmcefnlcalagaaGreatPValid
namespace Go.Proofs.YtgmcefnlcalagaaGreat.W
open Go Go.RowKit Go.Proofs.YtgmcefnlcalagaaGreat.AM
set_option linter.unusedVariables false
set_option linter.unusedSimpArgs false

theorem spec_l02Flow_eq {p : Nat} (n : Int) : spec_l02Flow_p p n = some (vIn n 0 100000, ()) := by unfold spec_l02Flow_p; rw [spec_l00In_eq]; rfl
theorem spec_l02Degrees_eq {p : Nat} (n : Int) : spec_l02Degrees_p p n = some (vIn n 0 18000, ()) := by unfold spec_l02Degrees_p; rw [spec_l00In_eq]; rfl
theorem impl_waterOk_eq {p : Nat} (n : Int) : impl_waterOk_p p n = some (vIn n 0 18000, ()) := by unfold impl_waterOk_p; rw [impl_within_eq]; rfl
theorem impl_headOk_eq {p : Nat} (n : Int) : impl_headOk_p p n = some (vIn n 0 2000000, ()) := by unfold impl_headOk_p; rw [impl_within_eq]; rfl

def vSub (x : Ty.T TSubstation) : Bool := vName x.1 && (vIn x.2.1 0 15 && (vIn x.2.2.1 1 100000 && (vIn x.2.2.2.1 0 18000 && vIn x.2.2.2.2 0 (IntKind.wrap .i64 (x.2.2.2.1 - (1 : Int))))))
theorem spec_l12One_eq {p : Nat} (hp : maxLen < p) (x : Ty.T TSubstation) : spec_l12One_p p x = some (vSub x, ()) := by
  unfold spec_l12One_p
  simp only [spec_l01Name_eq hp, impl_IsName_eq hp, spec_l00In_eq, impl_within_eq, impl_nodeOk_eq, spec_l02Degrees_eq, impl_waterOk_eq, Option.bind_some]
  exact and_seq _ _ _ (and_seq _ _ _ (and_seq _ _ _ (and_seq _ _ _ rfl)))
theorem impl_ValidSubstation_eq {p : Nat} (hp : maxLen < p) (x : Ty.T TSubstation) : impl_ValidSubstation_p p x = some (vSub x, ()) := by
  unfold impl_ValidSubstation_p
  simp only [spec_l01Name_eq hp, impl_IsName_eq hp, spec_l00In_eq, impl_within_eq, impl_nodeOk_eq, spec_l02Degrees_eq, impl_waterOk_eq, Option.bind_some]
  exact and_seq _ _ _ (and_seq _ _ _ (and_seq _ _ _ (and_seq _ _ _ rfl)))
def vTank (x : Ty.T TTank) : Bool := vIn x.1 1 100 && (vIn x.2.1 1 20 && vIn x.2.2 0 1000)
theorem spec_l14Ok_eq {p : Nat} (hp : maxLen < p) (x : Ty.T TTank) : spec_l14Ok_p p x = some (vTank x, ()) := by
  unfold spec_l14Ok_p
  simp only [spec_l01Name_eq hp, impl_IsName_eq hp, spec_l00In_eq, impl_within_eq, impl_nodeOk_eq, spec_l02Degrees_eq, impl_waterOk_eq, Option.bind_some]
  exact and_seq _ _ _ (and_seq _ _ _ rfl)
theorem impl_ValidTank_eq {p : Nat} (hp : maxLen < p) (x : Ty.T TTank) : impl_ValidTank_p p x = some (vTank x, ()) := by
  unfold impl_ValidTank_p
  simp only [spec_l01Name_eq hp, impl_IsName_eq hp, spec_l00In_eq, impl_within_eq, impl_nodeOk_eq, spec_l02Degrees_eq, impl_waterOk_eq, Option.bind_some]
  exact and_seq _ _ _ (and_seq _ _ _ rfl)
def vFuel (x : Ty.T TFuel) : Bool := vName x.1 && (vIn x.2.1 0 20 && (vIn x.2.2.1 0 1000 && vIn x.2.2.2 0 20))
theorem spec_l16One_eq {p : Nat} (hp : maxLen < p) (x : Ty.T TFuel) : spec_l16One_p p x = some (vFuel x, ()) := by
  unfold spec_l16One_p
  simp only [spec_l01Name_eq hp, impl_IsName_eq hp, spec_l00In_eq, impl_within_eq, impl_nodeOk_eq, spec_l02Degrees_eq, impl_waterOk_eq, Option.bind_some]
  exact and_seq _ _ _ (and_seq _ _ _ (and_seq _ _ _ rfl))
theorem impl_Fuel_valid_eq {p : Nat} (hp : maxLen < p) (x : Ty.T TFuel) : impl_Fuel_valid_p p x = some (vFuel x, ()) := by
  unfold impl_Fuel_valid_p
  simp only [spec_l01Name_eq hp, impl_IsName_eq hp, spec_l00In_eq, impl_within_eq, impl_nodeOk_eq, spec_l02Degrees_eq, impl_waterOk_eq, Option.bind_some]
  exact and_seq _ _ _ (and_seq _ _ _ (and_seq _ _ _ rfl))
def vRepair (x : Ty.T TFuel) : Bool := vName x.1 && (vIn x.2.1 1 100 && (vIn x.2.2.1 0 100000 && vIn x.2.2.2 0 1000))
theorem spec_l20One_eq {p : Nat} (hp : maxLen < p) (x : Ty.T TFuel) : spec_l20One_p p x = some (vRepair x, ()) := by
  unfold spec_l20One_p
  simp only [spec_l01Name_eq hp, impl_IsName_eq hp, spec_l00In_eq, impl_within_eq, impl_nodeOk_eq, spec_l02Degrees_eq, impl_waterOk_eq, Option.bind_some]
  exact and_seq _ _ _ (and_seq _ _ _ (and_seq _ _ _ rfl))
theorem impl_Repair_valid_eq {p : Nat} (hp : maxLen < p) (x : Ty.T TFuel) : impl_Repair_valid_p p x = some (vRepair x, ()) := by
  unfold impl_Repair_valid_p
  simp only [spec_l01Name_eq hp, impl_IsName_eq hp, spec_l00In_eq, impl_within_eq, impl_nodeOk_eq, spec_l02Degrees_eq, impl_waterOk_eq, Option.bind_some]
  exact and_seq _ _ _ (and_seq _ _ _ (and_seq _ _ _ rfl))
def vTenant (x : Ty.T TTenant) : Bool := vName x.1 && (vIn x.2.1 1 10000 && vIn x.2.2 0 1000000)
theorem spec_l22One_eq {p : Nat} (hp : maxLen < p) (x : Ty.T TTenant) : spec_l22One_p p x = some (vTenant x, ()) := by
  unfold spec_l22One_p
  simp only [spec_l01Name_eq hp, impl_IsName_eq hp, spec_l00In_eq, impl_within_eq, impl_nodeOk_eq, spec_l02Degrees_eq, impl_waterOk_eq, Option.bind_some]
  exact and_seq _ _ _ (and_seq _ _ _ rfl)
theorem impl_Tenant_valid_eq {p : Nat} (hp : maxLen < p) (x : Ty.T TTenant) : impl_Tenant_valid_p p x = some (vTenant x, ()) := by
  unfold impl_Tenant_valid_p
  simp only [spec_l01Name_eq hp, impl_IsName_eq hp, spec_l00In_eq, impl_within_eq, impl_nodeOk_eq, spec_l02Degrees_eq, impl_waterOk_eq, Option.bind_some]
  exact and_seq _ _ _ (and_seq _ _ _ rfl)
def vDuty (x : Ty.T TDuty) : Bool := vName x.1 && (vIn x.2.1 0 10000 && vIn x.2.2.1 1 48)
theorem spec_l26One_eq {p : Nat} (hp : maxLen < p) (x : Ty.T TDuty) : spec_l26One_p p x = some (vDuty x, ()) := by
  unfold spec_l26One_p
  simp only [spec_l01Name_eq hp, impl_IsName_eq hp, spec_l00In_eq, impl_within_eq, impl_nodeOk_eq, spec_l02Degrees_eq, impl_waterOk_eq, Option.bind_some]
  exact and_seq _ _ _ (and_seq _ _ _ rfl)
theorem impl_Duty_valid_eq {p : Nat} (hp : maxLen < p) (x : Ty.T TDuty) : impl_Duty_valid_p p x = some (vDuty x, ()) := by
  unfold impl_Duty_valid_p
  simp only [spec_l01Name_eq hp, impl_IsName_eq hp, spec_l00In_eq, impl_within_eq, impl_nodeOk_eq, spec_l02Degrees_eq, impl_waterOk_eq, Option.bind_some]
  exact and_seq _ _ _ (and_seq _ _ _ rfl)
theorem rName_def (a b : ByteArray) : rName a b = Op.bytesLess a.toList b.toList := rfl
/-- A list of at most 'm' elements, each right, in the order of their names. -/
def vList (T : Ty) (v : T.T → Bool) (r : T.T → T.T → Bool) (m : Nat) (xs : List T.T) : Bool := decide (xs.length ≤ m) && ordB v r xs

theorem spec_l12Ok_l0_eq {p : Nat} {α : Type} (hp : maxLen < p) (xs : List (Ty.T TSubstation)) (hl : xs.length ≤ 1048576) (k0 : Bool → Option α) (k1 : Unit → Option α) :
    spec_l12Ok_l0_go p xs p (0 : Int) k0 k1 = bif ordB vSub (fun a b => rName a.1 b.1) xs then k1 () else k0 false := by
  have hm : maxLen = 9223372036854775807 := rfl
  have hl : xs.length ≤ 1048576 := by exact hl
  exact ord_loop xs vSub (fun a b => rName a.1 b.1) (fun q i => spec_l12Ok_l0_go p xs q i k0 k1) (k0 false) (k1 ())
    (fun q => by simp only [spec_l12Ok_l0_go, spec_l12Ok_l0_r, dlt_end, cond_false])
    (fun q y hy => by
      simp only [spec_l12Ok_l0_go, spec_l12Ok_l0_r, dlt_get hy, cond_true, if_pos (Int.natCast_nonneg 0), Int.toNat_natCast, hy, Option.bind_some, spec_l12One_eq hp, pos_zero, cond_false, wrap_succ (show 0 < 9223372036854775807 by omega)]
      exact by cases vSub y <;> rfl)
    (fun q i z y hz hy hv => by
      have hi := lt_of_get hy
      simp only [spec_l12Ok_l0_go, spec_l12Ok_l0_r, dlt_get hy, cond_true, if_pos (Int.natCast_nonneg (i + 1)), if_pos (Int.natCast_nonneg i), Int.toNat_natCast, hy, hz, Option.bind_some, spec_l12One_eq hp, pos_succ, less_not, wrap_pred (show i < 9223372036854775807 by omega), wrap_succ1 (show i + 1 < 9223372036854775807 by omega)]
      exact by show _ = bif (vSub y && rName z.1 y.1) then _ else _; simp only [← rName_def]; cases vSub y <;> cases rName z.1 y.1 <;> rfl)
    p (by omega)
theorem impl_ValidSubstations_l0_eq {p : Nat} {α : Type} (hp : maxLen < p) (xs : List (Ty.T TSubstation)) (hl : xs.length ≤ 1048576) (k0 : Bool → Option α) (k1 : Unit → Option α) :
    impl_ValidSubstations_l0_go p xs xs (xs.length : Int) p (0 : Int) k0 k1 = bif ordB vSub (fun a b => rName a.1 b.1) xs then k1 () else k0 false := by
  have hm : maxLen = 9223372036854775807 := rfl
  have hl : xs.length ≤ 1048576 := by exact hl
  exact ord_loop xs vSub (fun a b => rName a.1 b.1) (fun q i => impl_ValidSubstations_l0_go p xs xs (xs.length : Int) q i k0 k1) (k0 false) (k1 ())
    (fun q => by simp only [impl_ValidSubstations_l0_go, impl_ValidSubstations_l0_r, dlt_end, cond_false])
    (fun q y hy => by
      simp only [impl_ValidSubstations_l0_go, impl_ValidSubstations_l0_r, dlt_get hy, cond_true, if_pos (Int.natCast_nonneg 0), Int.toNat_natCast, hy, Option.bind_some, impl_ValidSubstation_eq hp, pos_zero, cond_false, wrap_succ (show 0 < 9223372036854775807 by omega)]
      exact by cases vSub y <;> rfl)
    (fun q i z y hz hy hv => by
      have hi := lt_of_get hy
      simp only [impl_ValidSubstations_l0_go, impl_ValidSubstations_l0_r, dlt_get hy, cond_true, if_pos (Int.natCast_nonneg (i + 1)), if_pos (Int.natCast_nonneg i), Int.toNat_natCast, hy, hz, Option.bind_some, impl_ValidSubstation_eq hp, pos_succ, less_not, wrap_pred (show i < 9223372036854775807 by omega), wrap_succ1 (show i + 1 < 9223372036854775807 by omega)]
      exact by show _ = bif (vSub y && rName z.1 y.1) then _ else _; simp only [← rName_def]; cases vSub y <;> cases rName z.1 y.1 <;> rfl)
    p (by omega)
theorem spec_l12Ok_eq {p : Nat} (hp : maxLen < p) (xs : List (Ty.T TSubstation)) (hw : wt (.slice TSubstation) xs ≤ 1048576) : spec_l12Ok_p p xs = some (vList TSubstation vSub (fun a b => rName a.1 b.1) 12 xs, ()) := by
  have hl := wt_len (e := TSubstation) xs
  unfold spec_l12Ok_p vList
  rw [spec_l12Ok_l0_eq hp xs (by omega)]
  have e : decide ((xs.length : Int) ≤ (12 : Int)) = decide (xs.length ≤ 12) := by
    by_cases h : xs.length ≤ 12
    · rw [decide_eq_true h, decide_eq_true (by omega)]
    · rw [decide_eq_false h, decide_eq_false (by omega)]
  rw [e]
  cases ordB vSub (fun a b => rName a.1 b.1) xs <;> cases decide (xs.length ≤ 12) <;> rfl
theorem impl_ValidSubstations_eq {p : Nat} (hp : maxLen < p) (xs : List (Ty.T TSubstation)) (hw : wt (.slice TSubstation) xs ≤ 1048576) : impl_ValidSubstations_p p xs = some (vList TSubstation vSub (fun a b => rName a.1 b.1) 12 xs, ()) := by
  have hl := wt_len (e := TSubstation) xs
  unfold impl_ValidSubstations_p vList
  rw [impl_ValidSubstations_l0_eq hp xs (by omega)]
  by_cases h : xs.length ≤ 12
  · rw [decide_eq_true h, decide_eq_false (show ¬ (xs.length : Int) > 12 by omega)]; cases ordB vSub (fun a b => rName a.1 b.1) xs <;> rfl
  · rw [decide_eq_false h, decide_eq_true (show (xs.length : Int) > 12 by omega)]; rfl
theorem spec_l16Ok_l0_eq {p : Nat} {α : Type} (hp : maxLen < p) (xs : List (Ty.T TFuel)) (hl : xs.length ≤ 1048576) (k0 : Bool → Option α) (k1 : Unit → Option α) :
    spec_l16Ok_l0_go p xs p (0 : Int) k0 k1 = bif ordB vFuel (fun a b => rName a.1 b.1) xs then k1 () else k0 false := by
  have hm : maxLen = 9223372036854775807 := rfl
  have hl : xs.length ≤ 1048576 := by exact hl
  exact ord_loop xs vFuel (fun a b => rName a.1 b.1) (fun q i => spec_l16Ok_l0_go p xs q i k0 k1) (k0 false) (k1 ())
    (fun q => by simp only [spec_l16Ok_l0_go, spec_l16Ok_l0_r, dlt_end, cond_false])
    (fun q y hy => by
      simp only [spec_l16Ok_l0_go, spec_l16Ok_l0_r, dlt_get hy, cond_true, if_pos (Int.natCast_nonneg 0), Int.toNat_natCast, hy, Option.bind_some, spec_l16One_eq hp, pos_zero, cond_false, wrap_succ (show 0 < 9223372036854775807 by omega)]
      exact by cases vFuel y <;> rfl)
    (fun q i z y hz hy hv => by
      have hi := lt_of_get hy
      simp only [spec_l16Ok_l0_go, spec_l16Ok_l0_r, dlt_get hy, cond_true, if_pos (Int.natCast_nonneg (i + 1)), if_pos (Int.natCast_nonneg i), Int.toNat_natCast, hy, hz, Option.bind_some, spec_l16One_eq hp, pos_succ, less_not, wrap_pred (show i < 9223372036854775807 by omega), wrap_succ1 (show i + 1 < 9223372036854775807 by omega)]
      exact by show _ = bif (vFuel y && rName z.1 y.1) then _ else _; simp only [← rName_def]; cases vFuel y <;> cases rName z.1 y.1 <;> rfl)
    p (by omega)
theorem impl_ValidFuels_l0_eq {p : Nat} {α : Type} (hp : maxLen < p) (xs : List (Ty.T TFuel)) (hl : xs.length ≤ 1048576) (k0 : Bool → Option α) (k1 : Unit → Option α) :
    impl_ValidFuels_l0_go p xs xs (xs.length : Int) p (0 : Int) k0 k1 = bif ordB vFuel (fun a b => rName a.1 b.1) xs then k1 () else k0 false := by
  have hm : maxLen = 9223372036854775807 := rfl
  have hl : xs.length ≤ 1048576 := by exact hl
  exact ord_loop xs vFuel (fun a b => rName a.1 b.1) (fun q i => impl_ValidFuels_l0_go p xs xs (xs.length : Int) q i k0 k1) (k0 false) (k1 ())
    (fun q => by simp only [impl_ValidFuels_l0_go, impl_ValidFuels_l0_r, dlt_end, cond_false])
    (fun q y hy => by
      simp only [impl_ValidFuels_l0_go, impl_ValidFuels_l0_r, dlt_get hy, cond_true, if_pos (Int.natCast_nonneg 0), Int.toNat_natCast, hy, Option.bind_some, impl_Fuel_valid_eq hp, pos_zero, cond_false, wrap_succ (show 0 < 9223372036854775807 by omega)]
      exact by cases vFuel y <;> rfl)
    (fun q i z y hz hy hv => by
      have hi := lt_of_get hy
      simp only [impl_ValidFuels_l0_go, impl_ValidFuels_l0_r, dlt_get hy, cond_true, if_pos (Int.natCast_nonneg (i + 1)), if_pos (Int.natCast_nonneg i), Int.toNat_natCast, hy, hz, Option.bind_some, impl_Fuel_valid_eq hp, pos_succ, less_not, wrap_pred (show i < 9223372036854775807 by omega), wrap_succ1 (show i + 1 < 9223372036854775807 by omega)]
      exact by show _ = bif (vFuel y && rName z.1 y.1) then _ else _; simp only [← rName_def]; cases vFuel y <;> cases rName z.1 y.1 <;> rfl)
    p (by omega)
theorem spec_l16Ok_eq {p : Nat} (hp : maxLen < p) (xs : List (Ty.T TFuel)) (hw : wt (.slice TFuel) xs ≤ 1048576) : spec_l16Ok_p p xs = some (vList TFuel vFuel (fun a b => rName a.1 b.1) 6 xs, ()) := by
  have hl := wt_len (e := TFuel) xs
  unfold spec_l16Ok_p vList
  rw [spec_l16Ok_l0_eq hp xs (by omega)]
  have e : decide ((xs.length : Int) ≤ (6 : Int)) = decide (xs.length ≤ 6) := by
    by_cases h : xs.length ≤ 6
    · rw [decide_eq_true h, decide_eq_true (by omega)]
    · rw [decide_eq_false h, decide_eq_false (by omega)]
  rw [e]
  cases ordB vFuel (fun a b => rName a.1 b.1) xs <;> cases decide (xs.length ≤ 6) <;> rfl
theorem impl_ValidFuels_eq {p : Nat} (hp : maxLen < p) (xs : List (Ty.T TFuel)) (hw : wt (.slice TFuel) xs ≤ 1048576) : impl_ValidFuels_p p xs = some (vList TFuel vFuel (fun a b => rName a.1 b.1) 6 xs, ()) := by
  have hl := wt_len (e := TFuel) xs
  unfold impl_ValidFuels_p vList
  rw [impl_ValidFuels_l0_eq hp xs (by omega)]
  by_cases h : xs.length ≤ 6
  · rw [decide_eq_true h, decide_eq_false (show ¬ (xs.length : Int) > 6 by omega)]; cases ordB vFuel (fun a b => rName a.1 b.1) xs <;> rfl
  · rw [decide_eq_false h, decide_eq_true (show (xs.length : Int) > 6 by omega)]; rfl
theorem spec_l20Ok_l0_eq {p : Nat} {α : Type} (hp : maxLen < p) (xs : List (Ty.T TFuel)) (hl : xs.length ≤ 1048576) (k0 : Bool → Option α) (k1 : Unit → Option α) :
    spec_l20Ok_l0_go p xs p (0 : Int) k0 k1 = bif ordB vRepair (fun a b => rName a.1 b.1) xs then k1 () else k0 false := by
  have hm : maxLen = 9223372036854775807 := rfl
  have hl : xs.length ≤ 1048576 := by exact hl
  exact ord_loop xs vRepair (fun a b => rName a.1 b.1) (fun q i => spec_l20Ok_l0_go p xs q i k0 k1) (k0 false) (k1 ())
    (fun q => by simp only [spec_l20Ok_l0_go, spec_l20Ok_l0_r, dlt_end, cond_false])
    (fun q y hy => by
      simp only [spec_l20Ok_l0_go, spec_l20Ok_l0_r, dlt_get hy, cond_true, if_pos (Int.natCast_nonneg 0), Int.toNat_natCast, hy, Option.bind_some, spec_l20One_eq hp, pos_zero, cond_false, wrap_succ (show 0 < 9223372036854775807 by omega)]
      exact by cases vRepair y <;> rfl)
    (fun q i z y hz hy hv => by
      have hi := lt_of_get hy
      simp only [spec_l20Ok_l0_go, spec_l20Ok_l0_r, dlt_get hy, cond_true, if_pos (Int.natCast_nonneg (i + 1)), if_pos (Int.natCast_nonneg i), Int.toNat_natCast, hy, hz, Option.bind_some, spec_l20One_eq hp, pos_succ, less_not, wrap_pred (show i < 9223372036854775807 by omega), wrap_succ1 (show i + 1 < 9223372036854775807 by omega)]
      exact by show _ = bif (vRepair y && rName z.1 y.1) then _ else _; simp only [← rName_def]; cases vRepair y <;> cases rName z.1 y.1 <;> rfl)
    p (by omega)
theorem impl_ValidRepairs_l0_eq {p : Nat} {α : Type} (hp : maxLen < p) (xs : List (Ty.T TFuel)) (hl : xs.length ≤ 1048576) (k0 : Bool → Option α) (k1 : Unit → Option α) :
    impl_ValidRepairs_l0_go p xs xs (xs.length : Int) p (0 : Int) k0 k1 = bif ordB vRepair (fun a b => rName a.1 b.1) xs then k1 () else k0 false := by
  have hm : maxLen = 9223372036854775807 := rfl
  have hl : xs.length ≤ 1048576 := by exact hl
  exact ord_loop xs vRepair (fun a b => rName a.1 b.1) (fun q i => impl_ValidRepairs_l0_go p xs xs (xs.length : Int) q i k0 k1) (k0 false) (k1 ())
    (fun q => by simp only [impl_ValidRepairs_l0_go, impl_ValidRepairs_l0_r, dlt_end, cond_false])
    (fun q y hy => by
      simp only [impl_ValidRepairs_l0_go, impl_ValidRepairs_l0_r, dlt_get hy, cond_true, if_pos (Int.natCast_nonneg 0), Int.toNat_natCast, hy, Option.bind_some, impl_Repair_valid_eq hp, pos_zero, cond_false, wrap_succ (show 0 < 9223372036854775807 by omega)]
      exact by cases vRepair y <;> rfl)
    (fun q i z y hz hy hv => by
      have hi := lt_of_get hy
      simp only [impl_ValidRepairs_l0_go, impl_ValidRepairs_l0_r, dlt_get hy, cond_true, if_pos (Int.natCast_nonneg (i + 1)), if_pos (Int.natCast_nonneg i), Int.toNat_natCast, hy, hz, Option.bind_some, impl_Repair_valid_eq hp, pos_succ, less_not, wrap_pred (show i < 9223372036854775807 by omega), wrap_succ1 (show i + 1 < 9223372036854775807 by omega)]
      exact by show _ = bif (vRepair y && rName z.1 y.1) then _ else _; simp only [← rName_def]; cases vRepair y <;> cases rName z.1 y.1 <;> rfl)
    p (by omega)
theorem spec_l20Ok_eq {p : Nat} (hp : maxLen < p) (xs : List (Ty.T TFuel)) (hw : wt (.slice TFuel) xs ≤ 1048576) : spec_l20Ok_p p xs = some (vList TFuel vRepair (fun a b => rName a.1 b.1) 8 xs, ()) := by
  have hl := wt_len (e := TFuel) xs
  unfold spec_l20Ok_p vList
  rw [spec_l20Ok_l0_eq hp xs (by omega)]
  have e : decide ((xs.length : Int) ≤ (8 : Int)) = decide (xs.length ≤ 8) := by
    by_cases h : xs.length ≤ 8
    · rw [decide_eq_true h, decide_eq_true (by omega)]
    · rw [decide_eq_false h, decide_eq_false (by omega)]
  rw [e]
  cases ordB vRepair (fun a b => rName a.1 b.1) xs <;> cases decide (xs.length ≤ 8) <;> rfl
theorem impl_ValidRepairs_eq {p : Nat} (hp : maxLen < p) (xs : List (Ty.T TFuel)) (hw : wt (.slice TFuel) xs ≤ 1048576) : impl_ValidRepairs_p p xs = some (vList TFuel vRepair (fun a b => rName a.1 b.1) 8 xs, ()) := by
  have hl := wt_len (e := TFuel) xs
  unfold impl_ValidRepairs_p vList
  rw [impl_ValidRepairs_l0_eq hp xs (by omega)]
  by_cases h : xs.length ≤ 8
  · rw [decide_eq_true h, decide_eq_false (show ¬ (xs.length : Int) > 8 by omega)]; cases ordB vRepair (fun a b => rName a.1 b.1) xs <;> rfl
  · rw [decide_eq_false h, decide_eq_true (show (xs.length : Int) > 8 by omega)]; rfl
theorem spec_l22Ok_l0_eq {p : Nat} {α : Type} (hp : maxLen < p) (xs : List (Ty.T TTenant)) (hl : xs.length ≤ 1048576) (k0 : Bool → Option α) (k1 : Unit → Option α) :
    spec_l22Ok_l0_go p xs p (0 : Int) k0 k1 = bif ordB vTenant (fun a b => rName a.1 b.1) xs then k1 () else k0 false := by
  have hm : maxLen = 9223372036854775807 := rfl
  have hl : xs.length ≤ 1048576 := by exact hl
  exact ord_loop xs vTenant (fun a b => rName a.1 b.1) (fun q i => spec_l22Ok_l0_go p xs q i k0 k1) (k0 false) (k1 ())
    (fun q => by simp only [spec_l22Ok_l0_go, spec_l22Ok_l0_r, dlt_end, cond_false])
    (fun q y hy => by
      simp only [spec_l22Ok_l0_go, spec_l22Ok_l0_r, dlt_get hy, cond_true, if_pos (Int.natCast_nonneg 0), Int.toNat_natCast, hy, Option.bind_some, spec_l22One_eq hp, pos_zero, cond_false, wrap_succ (show 0 < 9223372036854775807 by omega)]
      exact by cases vTenant y <;> rfl)
    (fun q i z y hz hy hv => by
      have hi := lt_of_get hy
      simp only [spec_l22Ok_l0_go, spec_l22Ok_l0_r, dlt_get hy, cond_true, if_pos (Int.natCast_nonneg (i + 1)), if_pos (Int.natCast_nonneg i), Int.toNat_natCast, hy, hz, Option.bind_some, spec_l22One_eq hp, pos_succ, less_not, wrap_pred (show i < 9223372036854775807 by omega), wrap_succ1 (show i + 1 < 9223372036854775807 by omega)]
      exact by show _ = bif (vTenant y && rName z.1 y.1) then _ else _; simp only [← rName_def]; cases vTenant y <;> cases rName z.1 y.1 <;> rfl)
    p (by omega)
theorem impl_ValidTenants_l0_eq {p : Nat} {α : Type} (hp : maxLen < p) (xs : List (Ty.T TTenant)) (hl : xs.length ≤ 1048576) (k0 : Bool → Option α) (k1 : Unit → Option α) :
    impl_ValidTenants_l0_go p xs xs (xs.length : Int) p (0 : Int) k0 k1 = bif ordB vTenant (fun a b => rName a.1 b.1) xs then k1 () else k0 false := by
  have hm : maxLen = 9223372036854775807 := rfl
  have hl : xs.length ≤ 1048576 := by exact hl
  exact ord_loop xs vTenant (fun a b => rName a.1 b.1) (fun q i => impl_ValidTenants_l0_go p xs xs (xs.length : Int) q i k0 k1) (k0 false) (k1 ())
    (fun q => by simp only [impl_ValidTenants_l0_go, impl_ValidTenants_l0_r, dlt_end, cond_false])
    (fun q y hy => by
      simp only [impl_ValidTenants_l0_go, impl_ValidTenants_l0_r, dlt_get hy, cond_true, if_pos (Int.natCast_nonneg 0), Int.toNat_natCast, hy, Option.bind_some, impl_Tenant_valid_eq hp, pos_zero, cond_false, wrap_succ (show 0 < 9223372036854775807 by omega)]
      exact by cases vTenant y <;> rfl)
    (fun q i z y hz hy hv => by
      have hi := lt_of_get hy
      simp only [impl_ValidTenants_l0_go, impl_ValidTenants_l0_r, dlt_get hy, cond_true, if_pos (Int.natCast_nonneg (i + 1)), if_pos (Int.natCast_nonneg i), Int.toNat_natCast, hy, hz, Option.bind_some, impl_Tenant_valid_eq hp, pos_succ, less_not, wrap_pred (show i < 9223372036854775807 by omega), wrap_succ1 (show i + 1 < 9223372036854775807 by omega)]
      exact by show _ = bif (vTenant y && rName z.1 y.1) then _ else _; simp only [← rName_def]; cases vTenant y <;> cases rName z.1 y.1 <;> rfl)
    p (by omega)
theorem spec_l22Ok_eq {p : Nat} (hp : maxLen < p) (xs : List (Ty.T TTenant)) (hw : wt (.slice TTenant) xs ≤ 1048576) : spec_l22Ok_p p xs = some (vList TTenant vTenant (fun a b => rName a.1 b.1) 12 xs, ()) := by
  have hl := wt_len (e := TTenant) xs
  unfold spec_l22Ok_p vList
  rw [spec_l22Ok_l0_eq hp xs (by omega)]
  have e : decide ((xs.length : Int) ≤ (12 : Int)) = decide (xs.length ≤ 12) := by
    by_cases h : xs.length ≤ 12
    · rw [decide_eq_true h, decide_eq_true (by omega)]
    · rw [decide_eq_false h, decide_eq_false (by omega)]
  rw [e]
  cases ordB vTenant (fun a b => rName a.1 b.1) xs <;> cases decide (xs.length ≤ 12) <;> rfl
theorem impl_ValidTenants_eq {p : Nat} (hp : maxLen < p) (xs : List (Ty.T TTenant)) (hw : wt (.slice TTenant) xs ≤ 1048576) : impl_ValidTenants_p p xs = some (vList TTenant vTenant (fun a b => rName a.1 b.1) 12 xs, ()) := by
  have hl := wt_len (e := TTenant) xs
  unfold impl_ValidTenants_p vList
  rw [impl_ValidTenants_l0_eq hp xs (by omega)]
  by_cases h : xs.length ≤ 12
  · rw [decide_eq_true h, decide_eq_false (show ¬ (xs.length : Int) > 12 by omega)]; cases ordB vTenant (fun a b => rName a.1 b.1) xs <;> rfl
  · rw [decide_eq_false h, decide_eq_true (show (xs.length : Int) > 12 by omega)]; rfl
/-! ### Pumps -/

def vPt (y : List Int) : Bool := decide (y.length = 2) && (vIn (y.getD 0 0) 0 100000 && vIn (y.getD 1 0) 0 2000000)
def vPt0 (y : List Int) : Bool := vPt y && (y.getD 0 0 == 0)
def rPt (z y : List Int) : Bool := !(decide (z.getD 0 0 ≥ y.getD 0 0)) && !(decide (z.getD 1 0 < y.getD 1 0))
def vPump (x : Ty.T TPump) : Bool := vName x.1 && (decide (2 ≤ x.2.length) && (decide (x.2.length ≤ 8) && ordB0 vPt0 vPt rPt x.2))
theorem vPt_two {y : List Int} (h : vPt y = true) : ∃ a b, y = [a, b] := by
  simp only [vPt, Bool.and_eq_true, decide_eq_true_eq] at h; exact len2 h.1
theorem vPt_no {y : List Int} (h : ¬ y.length = 2) : vPt y = false := by
  unfold vPt; rw [decide_eq_false h]; rfl
theorem vPt_yes (a b : Int) : vPt [a, b] = (vIn a 0 100000 && vIn b 0 2000000) := rfl

theorem spec_l08Ok_l0_eq {p : Nat} {α : Type} (hp : maxLen < p) (x : Ty.T TPump) (hl : x.2.length ≤ 1048576) (k0 : Bool → Option α) (k1 : Unit → Option α) :
    spec_l08Ok_l0_go p x p (0 : Int) k0 k1 = bif ordB0 vPt0 vPt rPt x.2 then k1 () else k0 false := by
  have hm : maxLen = 9223372036854775807 := rfl
  exact ord_loop0 x.2 vPt0 vPt (fun y h => by simp only [vPt0, Bool.and_eq_true] at h; exact h.1) rPt (fun q i => spec_l08Ok_l0_go p x q i k0 k1) (k0 false) (k1 ())
    (fun q => by simp only [spec_l08Ok_l0_go, spec_l08Ok_l0_r, dlt_end, cond_false])
    (fun q y hy => by
      by_cases h2 : y.length = 2
      · obtain ⟨a, b, rfl⟩ := len2 h2
        simp only [spec_l08Ok_l0_go, spec_l08Ok_l0_r, dlt_get hy, cond_true, if_pos (Int.natCast_nonneg 0), Int.toNat_natCast, hy, Option.bind_some, spec_l02Flow_eq, spec_l00In_eq, two_len, two0, two1, zero_eq, pos_zero, cond_false, wrap_succ (show 0 < 9223372036854775807 by omega)]
        show _ = bif ((vIn a 0 100000 && vIn b 0 2000000) && (a == 0)) then _ else _
        have e : (a != (0 : Int)) = !(a == 0) := rfl
        rw [e]
        cases vIn a 0 100000 <;> cases vIn b 0 2000000 <;> cases (a == 0) <;> rfl
      · simp only [spec_l08Ok_l0_go, spec_l08Ok_l0_r, dlt_get hy, cond_true, if_pos (Int.natCast_nonneg 0), Int.toNat_natCast, hy, Option.bind_some, len_ne2 h2, vPt0, vPt_no h2]
        rfl)
    (fun q i z y hz hy hv => by
      have hi := lt_of_get hy
      obtain ⟨c, d, rfl⟩ := vPt_two hv
      by_cases h2 : y.length = 2
      · obtain ⟨a, b, rfl⟩ := len2 h2
        simp only [spec_l08Ok_l0_go, spec_l08Ok_l0_r, dlt_get hy, cond_true, if_pos (Int.natCast_nonneg (i + 1)), if_pos (Int.natCast_nonneg i), Int.toNat_natCast, hy, hz, Option.bind_some, spec_l02Flow_eq, spec_l00In_eq, two_len, two0, two1, succ_ne, pos_succ, cond_false, wrap_pred (show i < 9223372036854775807 by omega), wrap_succ1 (show i + 1 < 9223372036854775807 by omega)]
        show _ = bif ((vIn a 0 100000 && vIn b 0 2000000) && (!(decide (c ≥ a)) && !(decide (d < b)))) then _ else _
        skip
        cases vIn a 0 100000 <;> cases vIn b 0 2000000 <;> cases decide (c ≥ a) <;> cases decide (d < b) <;> rfl
      · simp only [spec_l08Ok_l0_go, spec_l08Ok_l0_r, dlt_get hy, cond_true, if_pos (Int.natCast_nonneg (i + 1)), Int.toNat_natCast, hy, Option.bind_some, len_ne2 h2, vPt_no h2]
        rfl)
    p (by omega)
theorem spec_l08Ok_eq {p : Nat} (hp : maxLen < p) (x : Ty.T TPump) (hw : wt TPump x ≤ 1048576) : spec_l08Ok_p p x = some (vPump x, ()) := by
  have hz : wt TPump x = x.1.size + wt (.slice (.slice (.int .i64))) x.2 := rfl
  have hl := wt_len (e := (.slice (.int .i64))) x.2
  unfold spec_l08Ok_p vPump
  rw [spec_l08Ok_l0_eq hp x (by omega)]
  simp only [spec_l01Name_eq hp, impl_IsName_eq hp, Option.bind_some]
  cases vName x.1
  · rfl
  by_cases h1 : 2 ≤ x.2.length
  · rw [decide_eq_true h1, decide_eq_false (show ¬ (x.2.length : Int) < 2 by omega)]
    by_cases h2 : x.2.length ≤ 8
    · rw [decide_eq_true h2, decide_eq_false (show ¬ (x.2.length : Int) > 8 by omega)]; cases ordB0 vPt0 vPt rPt x.2 <;> rfl
    · rw [decide_eq_false h2, decide_eq_true (show (x.2.length : Int) > 8 by omega)]; rfl
  · rw [decide_eq_false h1, decide_eq_true (show (x.2.length : Int) < 2 by omega)]; rfl
theorem impl_ValidPump_l0_eq {p : Nat} {α : Type} (hp : maxLen < p) (x : Ty.T TPump) (hl : x.2.length ≤ 1048576) (k0 : Bool → Option α) (k1 : Unit → Option α) :
    impl_ValidPump_l0_go p x.2 (x.2.length : Int) x.2 p (0 : Int) k0 k1 = bif ordB0 vPt0 vPt rPt x.2 then k1 () else k0 false := by
  have hm : maxLen = 9223372036854775807 := rfl
  exact ord_loop0 x.2 vPt0 vPt (fun y h => by simp only [vPt0, Bool.and_eq_true] at h; exact h.1) rPt (fun q i => impl_ValidPump_l0_go p x.2 (x.2.length : Int) x.2 q i k0 k1) (k0 false) (k1 ())
    (fun q => by simp only [impl_ValidPump_l0_go, impl_ValidPump_l0_r, dlt_end, cond_false])
    (fun q y hy => by
      by_cases h2 : y.length = 2
      · obtain ⟨a, b, rfl⟩ := len2 h2
        simp only [impl_ValidPump_l0_go, impl_ValidPump_l0_r, dlt_get hy, cond_true, if_pos (Int.natCast_nonneg 0), Int.toNat_natCast, hy, Option.bind_some, impl_within_eq, impl_headOk_eq, two_len, two0, two1, zero_eq, pos_zero, cond_false, wrap_succ (show 0 < 9223372036854775807 by omega)]
        show _ = bif ((vIn a 0 100000 && vIn b 0 2000000) && (a == 0)) then _ else _
        have e : (a != (0 : Int)) = !(a == 0) := rfl
        rw [e]
        cases vIn a 0 100000 <;> cases vIn b 0 2000000 <;> cases (a == 0) <;> rfl
      · simp only [impl_ValidPump_l0_go, impl_ValidPump_l0_r, dlt_get hy, cond_true, if_pos (Int.natCast_nonneg 0), Int.toNat_natCast, hy, Option.bind_some, len_ne2 h2, vPt0, vPt_no h2]
        rfl)
    (fun q i z y hz hy hv => by
      have hi := lt_of_get hy
      obtain ⟨c, d, rfl⟩ := vPt_two hv
      by_cases h2 : y.length = 2
      · obtain ⟨a, b, rfl⟩ := len2 h2
        simp only [impl_ValidPump_l0_go, impl_ValidPump_l0_r, dlt_get hy, cond_true, if_pos (Int.natCast_nonneg (i + 1)), if_pos (Int.natCast_nonneg i), Int.toNat_natCast, hy, hz, Option.bind_some, impl_within_eq, impl_headOk_eq, two_len, two0, two1, succ_ne, pos_succ, cond_false, wrap_pred (show i < 9223372036854775807 by omega), wrap_succ1 (show i + 1 < 9223372036854775807 by omega)]
        show _ = bif ((vIn a 0 100000 && vIn b 0 2000000) && (!(decide (c ≥ a)) && !(decide (d < b)))) then _ else _
        have e1 : decide (a ≤ c) = decide (c ≥ a) := rfl
        have e2 : decide (b > d) = decide (d < b) := rfl
        rw [e1, e2]
        cases vIn a 0 100000 <;> cases vIn b 0 2000000 <;> cases decide (c ≥ a) <;> cases decide (d < b) <;> rfl
      · simp only [impl_ValidPump_l0_go, impl_ValidPump_l0_r, dlt_get hy, cond_true, if_pos (Int.natCast_nonneg (i + 1)), Int.toNat_natCast, hy, Option.bind_some, len_ne2 h2, vPt_no h2]
        rfl)
    p (by omega)
theorem impl_ValidPump_eq {p : Nat} (hp : maxLen < p) (x : Ty.T TPump) (hw : wt TPump x ≤ 1048576) : impl_ValidPump_p p x = some (vPump x, ()) := by
  have hz : wt TPump x = x.1.size + wt (.slice (.slice (.int .i64))) x.2 := rfl
  have hl := wt_len (e := (.slice (.int .i64))) x.2
  unfold impl_ValidPump_p vPump
  rw [impl_ValidPump_l0_eq hp x (by omega)]
  simp only [spec_l01Name_eq hp, impl_IsName_eq hp, Option.bind_some]
  cases vName x.1
  · rfl
  by_cases h1 : 2 ≤ x.2.length
  · rw [decide_eq_true h1, decide_eq_false (show ¬ (x.2.length : Int) < 2 by omega)]
    by_cases h2 : x.2.length ≤ 8
    · rw [decide_eq_true h2, decide_eq_false (show ¬ (x.2.length : Int) > 8 by omega)]; cases ordB0 vPt0 vPt rPt x.2 <;> rfl
    · rw [decide_eq_false h2, decide_eq_true (show (x.2.length : Int) > 8 by omega)]; rfl
  · rw [decide_eq_false h1, decide_eq_true (show (x.2.length : Int) < 2 by omega)]; rfl
theorem spec_l08List_l0_eq {p : Nat} {α : Type} (hp : maxLen < p) (xs : List (Ty.T TPump)) (hw : wt (.slice TPump) xs ≤ 1048576) (k0 : Bool → Option α) (k1 : Unit → Option α) :
    spec_l08List_l0_go p xs p (0 : Int) k0 k1 = bif ordB vPump (fun a b => rName a.1 b.1) xs then k1 () else k0 false := by
  have hm : maxLen = 9223372036854775807 := rfl
  have hl : xs.length ≤ 1048576 := by have := wt_len (e := TPump) xs; omega
  exact ord_loop xs vPump (fun a b => rName a.1 b.1) (fun q i => spec_l08List_l0_go p xs q i k0 k1) (k0 false) (k1 ())
    (fun q => by simp only [spec_l08List_l0_go, spec_l08List_l0_r, dlt_end, cond_false])
    (fun q y hy => by
      simp only [spec_l08List_l0_go, spec_l08List_l0_r, dlt_get hy, cond_true, if_pos (Int.natCast_nonneg 0), Int.toNat_natCast, hy, Option.bind_some, spec_l08Ok_eq hp y (by have := wt_mem (e := TPump) hy; omega), pos_zero, cond_false, wrap_succ (show 0 < 9223372036854775807 by omega)]
      exact by cases vPump y <;> rfl)
    (fun q i z y hz hy hv => by
      have hi := lt_of_get hy
      simp only [spec_l08List_l0_go, spec_l08List_l0_r, dlt_get hy, cond_true, if_pos (Int.natCast_nonneg (i + 1)), if_pos (Int.natCast_nonneg i), Int.toNat_natCast, hy, hz, Option.bind_some, spec_l08Ok_eq hp y (by have := wt_mem (e := TPump) hy; omega), pos_succ, less_not, wrap_pred (show i < 9223372036854775807 by omega), wrap_succ1 (show i + 1 < 9223372036854775807 by omega)]
      exact by show _ = bif (vPump y && rName z.1 y.1) then _ else _; simp only [← rName_def]; cases vPump y <;> cases rName z.1 y.1 <;> rfl)
    p (by omega)
theorem impl_pumpsOk_l0_eq {p : Nat} {α : Type} (hp : maxLen < p) (xs : List (Ty.T TPump)) (hw : wt (.slice TPump) xs ≤ 1048576) (k0 : Bool → Option α) (k1 : Unit → Option α) :
    impl_pumpsOk_l0_go p xs xs (xs.length : Int) p (0 : Int) k0 k1 = bif ordB vPump (fun a b => rName a.1 b.1) xs then k1 () else k0 false := by
  have hm : maxLen = 9223372036854775807 := rfl
  have hl : xs.length ≤ 1048576 := by have := wt_len (e := TPump) xs; omega
  exact ord_loop xs vPump (fun a b => rName a.1 b.1) (fun q i => impl_pumpsOk_l0_go p xs xs (xs.length : Int) q i k0 k1) (k0 false) (k1 ())
    (fun q => by simp only [impl_pumpsOk_l0_go, impl_pumpsOk_l0_r, dlt_end, cond_false])
    (fun q y hy => by
      simp only [impl_pumpsOk_l0_go, impl_pumpsOk_l0_r, dlt_get hy, cond_true, if_pos (Int.natCast_nonneg 0), Int.toNat_natCast, hy, Option.bind_some, impl_ValidPump_eq hp y (by have := wt_mem (e := TPump) hy; omega), pos_zero, cond_false, wrap_succ (show 0 < 9223372036854775807 by omega)]
      exact by cases vPump y <;> rfl)
    (fun q i z y hz hy hv => by
      have hi := lt_of_get hy
      simp only [impl_pumpsOk_l0_go, impl_pumpsOk_l0_r, dlt_get hy, cond_true, if_pos (Int.natCast_nonneg (i + 1)), if_pos (Int.natCast_nonneg i), Int.toNat_natCast, hy, hz, Option.bind_some, impl_ValidPump_eq hp y (by have := wt_mem (e := TPump) hy; omega), pos_succ, less_not, wrap_pred (show i < 9223372036854775807 by omega), wrap_succ1 (show i + 1 < 9223372036854775807 by omega)]
      exact by show _ = bif (vPump y && rName z.1 y.1) then _ else _; simp only [← rName_def]; cases vPump y <;> cases rName z.1 y.1 <;> rfl)
    p (by omega)
theorem spec_l08List_eq {p : Nat} (hp : maxLen < p) (xs : List (Ty.T TPump)) (hw : wt (.slice TPump) xs ≤ 1048576) : spec_l08List_p p xs = some (vList TPump vPump (fun a b => rName a.1 b.1) 8 xs, ()) := by
  have hl := wt_len (e := TPump) xs
  unfold spec_l08List_p vList
  rw [spec_l08List_l0_eq hp xs hw]
  have e : decide ((xs.length : Int) ≤ (8 : Int)) = decide (xs.length ≤ 8) := by
    by_cases h : xs.length ≤ 8
    · rw [decide_eq_true h, decide_eq_true (by omega)]
    · rw [decide_eq_false h, decide_eq_false (by omega)]
  rw [e]
  cases ordB vPump (fun a b => rName a.1 b.1) xs <;> cases decide (xs.length ≤ 8) <;> rfl
theorem impl_pumpsOk_eq {p : Nat} (hp : maxLen < p) (xs : List (Ty.T TPump)) (hw : wt (.slice TPump) xs ≤ 1048576) : impl_pumpsOk_p p xs = some (vList TPump vPump (fun a b => rName a.1 b.1) 8 xs, ()) := by
  have hl := wt_len (e := TPump) xs
  unfold impl_pumpsOk_p vList
  rw [impl_pumpsOk_l0_eq hp xs hw]
  have e : decide ((xs.length : Int) ≤ (8 : Int)) = decide (xs.length ≤ 8) := by
    by_cases h : xs.length ≤ 8
    · rw [decide_eq_true h, decide_eq_true (by omega)]
    · rw [decide_eq_false h, decide_eq_false (by omega)]
  rw [e]
  cases ordB vPump (fun a b => rName a.1 b.1) xs <;> cases decide (xs.length ≤ 8) <;> rfl
/-! ### Duties -/

def rDuty (z y : Ty.T TDuty) : Bool := (rName z.1 y.1 || (z.1.toList == y.1.toList)) && !((z.1.toList == y.1.toList) && decide (IntKind.wrap .i64 (z.2.1 + z.2.2.1) > y.2.1))

theorem spec_l26Ok_l0_eq {p : Nat} {α : Type} (hp : maxLen < p) (xs : List (Ty.T TDuty)) (hl : xs.length ≤ 1048576) (k0 : Bool → Option α) (k1 : Unit → Option α) :
    spec_l26Ok_l0_go p xs p (0 : Int) k0 k1 = bif ordB vDuty rDuty xs then k1 () else k0 false := by
  have hm : maxLen = 9223372036854775807 := rfl
  have hl : xs.length ≤ 1048576 := by exact hl
  exact ord_loop xs vDuty rDuty (fun q i => spec_l26Ok_l0_go p xs q i k0 k1) (k0 false) (k1 ())
    (fun q => by simp only [spec_l26Ok_l0_go, spec_l26Ok_l0_r, dlt_end, cond_false])
    (fun q y hy => by
      simp only [spec_l26Ok_l0_go, spec_l26Ok_l0_r, dlt_get hy, cond_true, if_pos (Int.natCast_nonneg 0), Int.toNat_natCast, hy, Option.bind_some, spec_l26One_eq hp, pos_zero, cond_false, wrap_succ (show 0 < 9223372036854775807 by omega)]
      exact by cases vDuty y <;> rfl)
    (fun q i z y hz hy hv => by
      have hi := lt_of_get hy
      simp only [spec_l26Ok_l0_go, spec_l26Ok_l0_r, dlt_get hy, cond_true, if_pos (Int.natCast_nonneg (i + 1)), if_pos (Int.natCast_nonneg i), Int.toNat_natCast, hy, hz, Option.bind_some, spec_l26One_eq hp, pos_succ, wrap_pred (show i < 9223372036854775807 by omega), wrap_succ1 (show i + 1 < 9223372036854775807 by omega)]
      exact by show _ = bif (vDuty y && ((rName z.1 y.1 || (z.1.toList == y.1.toList)) && !((z.1.toList == y.1.toList) && decide (IntKind.wrap .i64 (z.2.1 + z.2.2.1) > y.2.1)))) then _ else _; simp only [← rName_def]; cases vDuty y <;> cases rName z.1 y.1 <;> cases (z.1.toList == y.1.toList) <;> cases decide (IntKind.wrap .i64 (z.2.1 + z.2.2.1) > y.2.1) <;> rfl)
    p (by omega)
theorem cmp_Compare_string_eq {p : Nat} (a b : ByteArray) : cmp_Compare_string_p p a b = some (if Op.bytesLess a.toList b.toList = true then -1 else if a.toList = b.toList then 0 else 1, ()) := by
  unfold cmp_Compare_string_p cmp_isNaN_string_p
  simp only [beq_self_eq_true, Bool.not_true, Option.bind_some, cond_false]
  cases h1 : Op.bytesLess a.toList b.toList with
  | true => rfl
  | false =>
    by_cases h2 : a.toList = b.toList
    · rw [beq_iff_eq.2 h2, if_pos h2]; rfl
    · rw [beq_eq_false_iff_ne.2 h2, if_neg h2]; rfl
theorem cmp_Compare_int64_eq {p : Nat} (a b : Int) : cmp_Compare_int64_p p a b = some (if a < b then -1 else if a > b then 1 else 0, ()) := by
  unfold cmp_Compare_int64_p cmp_isNaN_int64_p
  simp only [bne_self_eq_false, Option.bind_some, cond_false]
  by_cases h1 : a < b
  · rw [decide_eq_true h1, if_pos h1]; rfl
  rw [decide_eq_false h1, if_neg h1]
  by_cases h2 : a > b
  · rw [decide_eq_true h2, if_pos h2]; rfl
  rw [decide_eq_false h2, if_neg h2]; rfl
theorem cmp_Or_int_eq {p : Nat} (hp : maxLen < p) (a b : Int) : cmp_Or_int_p p [a, b] = some (if a ≠ 0 then a else b, ()) := by
  have hm : maxLen = 9223372036854775807 := rfl
  obtain ⟨q, rfl⟩ : ∃ q, p = q + 3 := ⟨p - 3, by omega⟩
  unfold cmp_Or_int_p
  have e1 : IntKind.wrap .i64 1 = 1 := wrap_in (by omega) (by omega)
  have e2 : IntKind.wrap .i64 2 = 2 := wrap_in (by omega) (by omega)
  by_cases h1 : a = 0
  · subst h1
    by_cases h2 : b = 0
    · subst h2
      simp [cmp_Or_int_l0_go, cmp_Or_int_l0_r, e1, e2]
    · have : (b != 0) = true := bne_iff_ne.2 h2
      simp [cmp_Or_int_l0_go, cmp_Or_int_l0_r, e1, e2, this]
  · have : (a != 0) = true := bne_iff_ne.2 h1
    simp [cmp_Or_int_l0_go, cmp_Or_int_l0_r, e1, e2, this, h1]
theorem impl_compareDuties_eq {p : Nat} (hp : maxLen < p) (z y : Ty.T TDuty) : impl_compareDuties_p p z y = some (if Op.bytesLess z.1.toList y.1.toList = true then -1 else if z.1.toList = y.1.toList then (if z.2.1 < y.2.1 then -1 else if z.2.1 > y.2.1 then 1 else 0) else 1, ()) := by
  unfold impl_compareDuties_p
  rw [cmp_Compare_string_eq, cmp_Compare_int64_eq]
  simp only [Option.bind_some]
  show ((cmp_Or_int_p p [_, _]).bind _) = _
  rw [cmp_Or_int_eq hp]
  simp only [Option.bind_some]
  congr 2
  by_cases h1 : Op.bytesLess z.1.toList y.1.toList = true
  · rw [if_pos h1, if_pos h1]; rfl
  · rw [if_neg h1, if_neg h1]
    by_cases h2 : z.1.toList = y.1.toList
    · rw [if_pos h2, if_pos h2]; rfl
    · rw [if_neg h2, if_neg h2]; rfl
theorem duty_cmp {z y : Ty.T TDuty} (hz : vDuty z = true) : (bif decide ((if Op.bytesLess z.1.toList y.1.toList = true then (-1 : Int) else if z.1.toList = y.1.toList then (if z.2.1 < y.2.1 then -1 else if z.2.1 > y.2.1 then 1 else 0) else 1) ≥ 0) then false else (bif (z.1.toList == y.1.toList) then !(decide (IntKind.wrap .i64 (z.2.1 + z.2.2.1) > y.2.1)) else true)) = rDuty z y := by
  simp only [vDuty, vIn, Bool.and_eq_true, decide_eq_true_eq] at hz
  have hw : IntKind.wrap .i64 (z.2.1 + z.2.2.1) = z.2.1 + z.2.2.1 := wrap_in (by omega) (by omega)
  unfold rDuty rName
  rw [hw]
  cases h1 : Op.bytesLess z.1.toList y.1.toList with
  | true =>
    rw [if_pos rfl, decide_eq_false (by omega), cond_false]
    cases (z.1.toList == y.1.toList) <;> simp
  | false =>
    rw [if_neg (by simp)]
    by_cases h2 : z.1.toList = y.1.toList
    · rw [if_pos h2, beq_iff_eq.2 h2]
      by_cases h3 : (z.2.1 : Int) < (y.2.1 : Int)
      · rw [if_pos h3, decide_eq_false (by omega)]; simp
      · rw [if_neg h3, decide_eq_true ((fun (s h t : Int) (a : h ≥ 1) (b : ¬ s < t) => (by omega : s + h > t)) z.2.1 z.2.2.1 y.2.1 hz.2.2.1 h3)]
        by_cases h4 : (z.2.1 : Int) > (y.2.1 : Int)
        · rw [if_pos h4]; rfl
        · rw [if_neg h4]; rfl
    · rw [if_neg h2, beq_eq_false_iff_ne.2 h2]; rfl

theorem impl_ValidDuties_l0_eq {p : Nat} {α : Type} (hp : maxLen < p) (xs : List (Ty.T TDuty)) (hl : xs.length ≤ 1048576) (k0 : Bool → Option α) (k1 : Unit → Option α) :
    impl_ValidDuties_l0_go p xs xs (xs.length : Int) p (0 : Int) k0 k1 = bif ordB vDuty rDuty xs then k1 () else k0 false := by
  have hm : maxLen = 9223372036854775807 := rfl
  have hl : xs.length ≤ 1048576 := by exact hl
  exact ord_loop xs vDuty rDuty (fun q i => impl_ValidDuties_l0_go p xs xs (xs.length : Int) q i k0 k1) (k0 false) (k1 ())
    (fun q => by simp only [impl_ValidDuties_l0_go, impl_ValidDuties_l0_r, dlt_end, cond_false])
    (fun q y hy => by
      simp only [impl_ValidDuties_l0_go, impl_ValidDuties_l0_r, dlt_get hy, cond_true, if_pos (Int.natCast_nonneg 0), Int.toNat_natCast, hy, Option.bind_some, impl_Duty_valid_eq hp, pos_zero, cond_false, wrap_succ (show 0 < 9223372036854775807 by omega)]
      exact by cases vDuty y <;> rfl)
    (fun q i z y hz hy hv => by
      have hi := lt_of_get hy
      simp only [impl_ValidDuties_l0_go, impl_ValidDuties_l0_r, dlt_get hy, cond_true, if_pos (Int.natCast_nonneg (i + 1)), if_pos (Int.natCast_nonneg i), Int.toNat_natCast, hy, hz, Option.bind_some, impl_Duty_valid_eq hp, pos_succ, less_not, wrap_pred (show i < 9223372036854775807 by omega), wrap_succ1 (show i + 1 < 9223372036854775807 by omega), impl_compareDuties_eq hp, impl_Duty_end_p]
      exact by rw [← duty_cmp hv]; generalize decide ((if Op.bytesLess z.1.toList y.1.toList = true then (-1 : Int) else if z.1.toList = y.1.toList then (if z.2.1 < y.2.1 then -1 else if z.2.1 > y.2.1 then 1 else 0) else 1) ≥ 0) = B; cases vDuty y <;> cases B <;> cases (z.1.toList == y.1.toList) <;> cases decide (IntKind.wrap .i64 (z.2.1 + z.2.2.1) > y.2.1) <;> rfl)
    p (by omega)
theorem spec_l26Ok_eq {p : Nat} (hp : maxLen < p) (xs : List (Ty.T TDuty)) (hw : wt (.slice TDuty) xs ≤ 1048576) : spec_l26Ok_p p xs = some (vList TDuty vDuty rDuty 32 xs, ()) := by
  have hl := wt_len (e := TDuty) xs
  unfold spec_l26Ok_p vList
  rw [spec_l26Ok_l0_eq hp xs (by omega)]
  have e : decide ((xs.length : Int) ≤ (32 : Int)) = decide (xs.length ≤ 32) := by
    by_cases h : xs.length ≤ 32
    · rw [decide_eq_true h, decide_eq_true (by omega)]
    · rw [decide_eq_false h, decide_eq_false (by omega)]
  rw [e]
  cases ordB vDuty rDuty xs <;> cases decide (xs.length ≤ 32) <;> rfl
theorem impl_ValidDuties_eq {p : Nat} (hp : maxLen < p) (xs : List (Ty.T TDuty)) (hw : wt (.slice TDuty) xs ≤ 1048576) : impl_ValidDuties_p p xs = some (vList TDuty vDuty rDuty 32 xs, ()) := by
  have hl := wt_len (e := TDuty) xs
  unfold impl_ValidDuties_p vList
  rw [impl_ValidDuties_l0_eq hp xs (by omega)]
  by_cases h : xs.length ≤ 32
  · rw [decide_eq_true h, decide_eq_false (show ¬ (xs.length : Int) > 32 by omega)]; cases ordB vDuty rDuty xs <;> rfl
  · rw [decide_eq_false h, decide_eq_true (show (xs.length : Int) > 32 by omega)]; rfl
end Go.Proofs.YtgmcefnlcalagaaGreat.W
