/- Comparisons of lists, printed by same.py. No condition. -/
import Derived.Test.YtekplllopcmooaaP0
import Derived.Test.YtekplllopcmooaaPLaws
namespace Go.Proofs.Ytekplllopcmooaa.W
open Go Go.RowKit Go.Proofs.Ytekplllopcmooaa.AM
set_option linter.unusedVariables false
set_option linter.unusedSimpArgs false
theorem spec_l00Same_l0_eq {p : Nat} {α : Type} (hp : maxLen < p) (xs ys : List (Ty.T (.int .i64))) (hw : xs.length ≤ 1048576) (hlen : xs.length = ys.length) (k0 : Bool → Option α) (k1 : Unit → Option α) :
    spec_l00Same_l0_go p xs ys p (0 : Int) k0 k1 = bif lbeq (tbeq (.int .i64)) xs ys then k1 () else k0 false := by
  have hm : maxLen = 9223372036854775807 := rfl
  have hl : xs.length ≤ 1048576 := by exact hw
  exact eq_loop xs ys (tbeq (.int .i64)) (fun q i => spec_l00Same_l0_go p xs ys q i k0 k1) (k0 false) (k1 ()) hlen
    (fun q => by simp only [spec_l00Same_l0_go, spec_l00Same_l0_r, dlt_end, cond_false])
    (fun q i a b hg hg2 => by
      have hi := lt_of_get hg
      simp only [spec_l00Same_l0_go, spec_l00Same_l0_r, dlt_get hg, cond_true, if_pos (Int.natCast_nonneg i), Int.toNat_natCast, hg, hg2, Option.bind_some, wrap_succ (show i < 9223372036854775807 by omega)]
      exact cond_not _ _ _)
    p (by omega)
theorem spec_l00Same_eq {p : Nat} (hp : maxLen < p) (xs ys : List (Ty.T (.int .i64))) (hw : wt (.slice (.int .i64)) xs ≤ 1048576) : spec_l00Same_p p xs ys = some (tbeq (.slice (.int .i64)) xs ys, ()) := by
  have hl := wt_len (e := (.int .i64)) xs
  unfold spec_l00Same_p
  show _ = some (lbeq (tbeq (.int .i64)) xs ys, ())
  cases hn : ((xs.length : Int) != (ys.length : Int)) with
  | true => rw [cond_true, len_ne _ hn]
  | false => rw [cond_false, spec_l00Same_l0_eq hp xs ys (by omega) (len_eq hn)]; cases lbeq (tbeq (.int .i64)) xs ys <;> rfl
theorem spec_SameNetwork_l0_eq {p : Nat} {α : Type} (hp : maxLen < p) (xs ys : List (Ty.T TPipe)) (hw : xs.length ≤ 1048576) (hlen : xs.length = ys.length) (k0 : Bool → Option α) (k1 : Unit → Option α) :
    spec_SameNetwork_l0_go p xs ys p (0 : Int) k0 k1 = bif lbeq (tbeq TPipe) xs ys then k1 () else k0 false := by
  have hm : maxLen = 9223372036854775807 := rfl
  have hl : xs.length ≤ 1048576 := by exact hw
  exact eq_loop xs ys (tbeq TPipe) (fun q i => spec_SameNetwork_l0_go p xs ys q i k0 k1) (k0 false) (k1 ()) hlen
    (fun q => by simp only [spec_SameNetwork_l0_go, spec_SameNetwork_l0_r, dlt_end, cond_false])
    (fun q i a b hg hg2 => by
      have hi := lt_of_get hg
      simp only [spec_SameNetwork_l0_go, spec_SameNetwork_l0_r, dlt_get hg, cond_true, if_pos (Int.natCast_nonneg i), Int.toNat_natCast, hg, hg2, Option.bind_some, wrap_succ (show i < 9223372036854775807 by omega)]
      simp only [TPipe, tbeq, Bool.and_true]; exact cond_not _ _ _)
    p (by omega)
theorem spec_SameDesk_l0_eq {p : Nat} {α : Type} (hp : maxLen < p) (xs ys : List (Ty.T TValve)) (hw : xs.length ≤ 1048576) (hlen : xs.length = ys.length) (k0 : Bool → Option α) (k1 : Unit → Option α) :
    spec_SameDesk_l0_go p xs ys p (0 : Int) k0 k1 = bif lbeq (tbeq TValve) xs ys then k1 () else k0 false := by
  have hm : maxLen = 9223372036854775807 := rfl
  have hl : xs.length ≤ 1048576 := by exact hw
  exact eq_loop xs ys (tbeq TValve) (fun q i => spec_SameDesk_l0_go p xs ys q i k0 k1) (k0 false) (k1 ()) hlen
    (fun q => by simp only [spec_SameDesk_l0_go, spec_SameDesk_l0_r, dlt_end, cond_false])
    (fun q i a b hg hg2 => by
      have hi := lt_of_get hg
      simp only [spec_SameDesk_l0_go, spec_SameDesk_l0_r, dlt_get hg, cond_true, if_pos (Int.natCast_nonneg i), Int.toNat_natCast, hg, hg2, Option.bind_some, wrap_succ (show i < 9223372036854775807 by omega)]
      simp only [TValve, tbeq, Bool.and_true]; exact cond_not _ _ _)
    p (by omega)
theorem spec_SameDesk_l2_eq {p : Nat} {α : Type} (hp : maxLen < p) (xs ys : List (Ty.T TSubstation)) (hw : xs.length ≤ 1048576) (hlen : xs.length = ys.length) (k0 : Bool → Option α) (k1 : Unit → Option α) :
    spec_SameDesk_l2_go p xs ys p (0 : Int) k0 k1 = bif lbeq (tbeq TSubstation) xs ys then k1 () else k0 false := by
  have hm : maxLen = 9223372036854775807 := rfl
  have hl : xs.length ≤ 1048576 := by exact hw
  exact eq_loop xs ys (tbeq TSubstation) (fun q i => spec_SameDesk_l2_go p xs ys q i k0 k1) (k0 false) (k1 ()) hlen
    (fun q => by simp only [spec_SameDesk_l2_go, spec_SameDesk_l2_r, dlt_end, cond_false])
    (fun q i a b hg hg2 => by
      have hi := lt_of_get hg
      simp only [spec_SameDesk_l2_go, spec_SameDesk_l2_r, dlt_get hg, cond_true, if_pos (Int.natCast_nonneg i), Int.toNat_natCast, hg, hg2, Option.bind_some, wrap_succ (show i < 9223372036854775807 by omega)]
      simp only [TSubstation, tbeq, Bool.and_true]; exact cond_not _ _ _)
    p (by omega)
theorem spec_SameDesk_l3_eq {p : Nat} {α : Type} (hp : maxLen < p) (xs ys : List (Ty.T TFuel)) (hw : xs.length ≤ 1048576) (hlen : xs.length = ys.length) (k0 : Bool → Option α) (k1 : Unit → Option α) :
    spec_SameDesk_l3_go p xs ys p (0 : Int) k0 k1 = bif lbeq (tbeq TFuel) xs ys then k1 () else k0 false := by
  have hm : maxLen = 9223372036854775807 := rfl
  have hl : xs.length ≤ 1048576 := by exact hw
  exact eq_loop xs ys (tbeq TFuel) (fun q i => spec_SameDesk_l3_go p xs ys q i k0 k1) (k0 false) (k1 ()) hlen
    (fun q => by simp only [spec_SameDesk_l3_go, spec_SameDesk_l3_r, dlt_end, cond_false])
    (fun q i a b hg hg2 => by
      have hi := lt_of_get hg
      simp only [spec_SameDesk_l3_go, spec_SameDesk_l3_r, dlt_get hg, cond_true, if_pos (Int.natCast_nonneg i), Int.toNat_natCast, hg, hg2, Option.bind_some, wrap_succ (show i < 9223372036854775807 by omega)]
      simp only [TFuel, tbeq, Bool.and_true]; exact cond_not _ _ _)
    p (by omega)
theorem spec_SameDesk_l4_eq {p : Nat} {α : Type} (hp : maxLen < p) (xs ys : List (Ty.T TFuel)) (hw : xs.length ≤ 1048576) (hlen : xs.length = ys.length) (k0 : Bool → Option α) (k1 : Unit → Option α) :
    spec_SameDesk_l4_go p xs ys p (0 : Int) k0 k1 = bif lbeq (tbeq TFuel) xs ys then k1 () else k0 false := by
  have hm : maxLen = 9223372036854775807 := rfl
  have hl : xs.length ≤ 1048576 := by exact hw
  exact eq_loop xs ys (tbeq TFuel) (fun q i => spec_SameDesk_l4_go p xs ys q i k0 k1) (k0 false) (k1 ()) hlen
    (fun q => by simp only [spec_SameDesk_l4_go, spec_SameDesk_l4_r, dlt_end, cond_false])
    (fun q i a b hg hg2 => by
      have hi := lt_of_get hg
      simp only [spec_SameDesk_l4_go, spec_SameDesk_l4_r, dlt_get hg, cond_true, if_pos (Int.natCast_nonneg i), Int.toNat_natCast, hg, hg2, Option.bind_some, wrap_succ (show i < 9223372036854775807 by omega)]
      simp only [TFuel, tbeq, Bool.and_true]; exact cond_not _ _ _)
    p (by omega)
theorem spec_SameDesk_l5_eq {p : Nat} {α : Type} (hp : maxLen < p) (xs ys : List (Ty.T TTenant)) (hw : xs.length ≤ 1048576) (hlen : xs.length = ys.length) (k0 : Bool → Option α) (k1 : Unit → Option α) :
    spec_SameDesk_l5_go p xs ys p (0 : Int) k0 k1 = bif lbeq (tbeq TTenant) xs ys then k1 () else k0 false := by
  have hm : maxLen = 9223372036854775807 := rfl
  have hl : xs.length ≤ 1048576 := by exact hw
  exact eq_loop xs ys (tbeq TTenant) (fun q i => spec_SameDesk_l5_go p xs ys q i k0 k1) (k0 false) (k1 ()) hlen
    (fun q => by simp only [spec_SameDesk_l5_go, spec_SameDesk_l5_r, dlt_end, cond_false])
    (fun q i a b hg hg2 => by
      have hi := lt_of_get hg
      simp only [spec_SameDesk_l5_go, spec_SameDesk_l5_r, dlt_get hg, cond_true, if_pos (Int.natCast_nonneg i), Int.toNat_natCast, hg, hg2, Option.bind_some, wrap_succ (show i < 9223372036854775807 by omega)]
      simp only [TTenant, tbeq, Bool.and_true]; exact cond_not _ _ _)
    p (by omega)
theorem spec_SameDesk_l6_eq {p : Nat} {α : Type} (hp : maxLen < p) (xs ys : List (Ty.T TDuty)) (hw : xs.length ≤ 1048576) (hlen : xs.length = ys.length) (k0 : Bool → Option α) (k1 : Unit → Option α) :
    spec_SameDesk_l6_go p xs ys p (0 : Int) k0 k1 = bif lbeq (tbeq TDuty) xs ys then k1 () else k0 false := by
  have hm : maxLen = 9223372036854775807 := rfl
  have hl : xs.length ≤ 1048576 := by exact hw
  exact eq_loop xs ys (tbeq TDuty) (fun q i => spec_SameDesk_l6_go p xs ys q i k0 k1) (k0 false) (k1 ()) hlen
    (fun q => by simp only [spec_SameDesk_l6_go, spec_SameDesk_l6_r, dlt_end, cond_false])
    (fun q i a b hg hg2 => by
      have hi := lt_of_get hg
      simp only [spec_SameDesk_l6_go, spec_SameDesk_l6_r, dlt_get hg, cond_true, if_pos (Int.natCast_nonneg i), Int.toNat_natCast, hg, hg2, Option.bind_some, wrap_succ (show i < 9223372036854775807 by omega)]
      simp only [TDuty, tbeq, Bool.and_true]; exact cond_not _ _ _)
    p (by omega)
theorem slices_Equal_int64_int64_l0_eq {p : Nat} {α : Type} (hp : maxLen < p) (xs ys : List (Ty.T (.int .i64))) (hw : xs.length ≤ 1048576) (hlen : xs.length = ys.length) (k0 : Bool → Option α) (k1 : Unit → Option α) :
    slices_Equal_int64_int64_l0_go p xs ys (xs.length : Int) p (0 : Int) k0 k1 = bif lbeq (tbeq (.int .i64)) xs ys then k1 () else k0 false := by
  have hm : maxLen = 9223372036854775807 := rfl
  have hl : xs.length ≤ 1048576 := by exact hw
  exact eq_loop xs ys (tbeq (.int .i64)) (fun q i => slices_Equal_int64_int64_l0_go p xs ys (xs.length : Int) q i k0 k1) (k0 false) (k1 ()) hlen
    (fun q => by simp only [slices_Equal_int64_int64_l0_go, slices_Equal_int64_int64_l0_r, dlt_end, cond_false])
    (fun q i a b hg hg2 => by
      have hi := lt_of_get hg
      simp only [slices_Equal_int64_int64_l0_go, slices_Equal_int64_int64_l0_r, dlt_get hg, cond_true, if_pos (Int.natCast_nonneg i), Int.toNat_natCast, hg, hg2, Option.bind_some, wrap_succ (show i < 9223372036854775807 by omega)]
      exact cond_not _ _ _)
    p (by omega)
theorem slices_Equal_int64_int64_eq {p : Nat} (hp : maxLen < p) (xs ys : List (Ty.T (.int .i64))) (hw : wt (.slice (.int .i64)) xs ≤ 1048576) : slices_Equal_int64_int64_p p xs ys = some (tbeq (.slice (.int .i64)) xs ys, ()) := by
  have hl := wt_len (e := (.int .i64)) xs
  unfold slices_Equal_int64_int64_p
  show _ = some (lbeq (tbeq (.int .i64)) xs ys, ())
  cases hn : ((xs.length : Int) != (ys.length : Int)) with
  | true => rw [cond_true, len_ne _ hn]
  | false => rw [cond_false, slices_Equal_int64_int64_l0_eq hp xs ys (by omega) (len_eq hn)]; cases lbeq (tbeq (.int .i64)) xs ys <;> rfl
theorem slices_Equal_impl_Pipe_impl_Pipe_l0_eq {p : Nat} {α : Type} (hp : maxLen < p) (xs ys : List (Ty.T TPipe)) (hw : xs.length ≤ 1048576) (hlen : xs.length = ys.length) (k0 : Bool → Option α) (k1 : Unit → Option α) :
    slices_Equal_impl_Pipe_impl_Pipe_l0_go p xs ys (xs.length : Int) p (0 : Int) k0 k1 = bif lbeq (tbeq TPipe) xs ys then k1 () else k0 false := by
  have hm : maxLen = 9223372036854775807 := rfl
  have hl : xs.length ≤ 1048576 := by exact hw
  exact eq_loop xs ys (tbeq TPipe) (fun q i => slices_Equal_impl_Pipe_impl_Pipe_l0_go p xs ys (xs.length : Int) q i k0 k1) (k0 false) (k1 ()) hlen
    (fun q => by simp only [slices_Equal_impl_Pipe_impl_Pipe_l0_go, slices_Equal_impl_Pipe_impl_Pipe_l0_r, dlt_end, cond_false])
    (fun q i a b hg hg2 => by
      have hi := lt_of_get hg
      simp only [slices_Equal_impl_Pipe_impl_Pipe_l0_go, slices_Equal_impl_Pipe_impl_Pipe_l0_r, dlt_get hg, cond_true, if_pos (Int.natCast_nonneg i), Int.toNat_natCast, hg, hg2, Option.bind_some, wrap_succ (show i < 9223372036854775807 by omega)]
      simp only [TPipe, tbeq, Bool.and_true]; exact cond_not _ _ _)
    p (by omega)
theorem slices_Equal_impl_Pipe_impl_Pipe_eq {p : Nat} (hp : maxLen < p) (xs ys : List (Ty.T TPipe)) (hw : wt (.slice TPipe) xs ≤ 1048576) : slices_Equal_impl_Pipe_impl_Pipe_p p xs ys = some (tbeq (.slice TPipe) xs ys, ()) := by
  have hl := wt_len (e := TPipe) xs
  unfold slices_Equal_impl_Pipe_impl_Pipe_p
  show _ = some (lbeq (tbeq TPipe) xs ys, ())
  cases hn : ((xs.length : Int) != (ys.length : Int)) with
  | true => rw [cond_true, len_ne _ hn]
  | false => rw [cond_false, slices_Equal_impl_Pipe_impl_Pipe_l0_eq hp xs ys (by omega) (len_eq hn)]; cases lbeq (tbeq TPipe) xs ys <;> rfl
theorem slices_Equal_impl_Valve_impl_Valve_l0_eq {p : Nat} {α : Type} (hp : maxLen < p) (xs ys : List (Ty.T TValve)) (hw : xs.length ≤ 1048576) (hlen : xs.length = ys.length) (k0 : Bool → Option α) (k1 : Unit → Option α) :
    slices_Equal_impl_Valve_impl_Valve_l0_go p xs ys (xs.length : Int) p (0 : Int) k0 k1 = bif lbeq (tbeq TValve) xs ys then k1 () else k0 false := by
  have hm : maxLen = 9223372036854775807 := rfl
  have hl : xs.length ≤ 1048576 := by exact hw
  exact eq_loop xs ys (tbeq TValve) (fun q i => slices_Equal_impl_Valve_impl_Valve_l0_go p xs ys (xs.length : Int) q i k0 k1) (k0 false) (k1 ()) hlen
    (fun q => by simp only [slices_Equal_impl_Valve_impl_Valve_l0_go, slices_Equal_impl_Valve_impl_Valve_l0_r, dlt_end, cond_false])
    (fun q i a b hg hg2 => by
      have hi := lt_of_get hg
      simp only [slices_Equal_impl_Valve_impl_Valve_l0_go, slices_Equal_impl_Valve_impl_Valve_l0_r, dlt_get hg, cond_true, if_pos (Int.natCast_nonneg i), Int.toNat_natCast, hg, hg2, Option.bind_some, wrap_succ (show i < 9223372036854775807 by omega)]
      simp only [TValve, tbeq, Bool.and_true]; exact cond_not _ _ _)
    p (by omega)
theorem slices_Equal_impl_Valve_impl_Valve_eq {p : Nat} (hp : maxLen < p) (xs ys : List (Ty.T TValve)) (hw : wt (.slice TValve) xs ≤ 1048576) : slices_Equal_impl_Valve_impl_Valve_p p xs ys = some (tbeq (.slice TValve) xs ys, ()) := by
  have hl := wt_len (e := TValve) xs
  unfold slices_Equal_impl_Valve_impl_Valve_p
  show _ = some (lbeq (tbeq TValve) xs ys, ())
  cases hn : ((xs.length : Int) != (ys.length : Int)) with
  | true => rw [cond_true, len_ne _ hn]
  | false => rw [cond_false, slices_Equal_impl_Valve_impl_Valve_l0_eq hp xs ys (by omega) (len_eq hn)]; cases lbeq (tbeq TValve) xs ys <;> rfl
theorem slices_Equal_impl_Substation_impl_Substation_l0_eq {p : Nat} {α : Type} (hp : maxLen < p) (xs ys : List (Ty.T TSubstation)) (hw : xs.length ≤ 1048576) (hlen : xs.length = ys.length) (k0 : Bool → Option α) (k1 : Unit → Option α) :
    slices_Equal_impl_Substation_impl_Substation_l0_go p xs ys (xs.length : Int) p (0 : Int) k0 k1 = bif lbeq (tbeq TSubstation) xs ys then k1 () else k0 false := by
  have hm : maxLen = 9223372036854775807 := rfl
  have hl : xs.length ≤ 1048576 := by exact hw
  exact eq_loop xs ys (tbeq TSubstation) (fun q i => slices_Equal_impl_Substation_impl_Substation_l0_go p xs ys (xs.length : Int) q i k0 k1) (k0 false) (k1 ()) hlen
    (fun q => by simp only [slices_Equal_impl_Substation_impl_Substation_l0_go, slices_Equal_impl_Substation_impl_Substation_l0_r, dlt_end, cond_false])
    (fun q i a b hg hg2 => by
      have hi := lt_of_get hg
      simp only [slices_Equal_impl_Substation_impl_Substation_l0_go, slices_Equal_impl_Substation_impl_Substation_l0_r, dlt_get hg, cond_true, if_pos (Int.natCast_nonneg i), Int.toNat_natCast, hg, hg2, Option.bind_some, wrap_succ (show i < 9223372036854775807 by omega)]
      simp only [TSubstation, tbeq, Bool.and_true]; exact cond_not _ _ _)
    p (by omega)
theorem slices_Equal_impl_Substation_impl_Substation_eq {p : Nat} (hp : maxLen < p) (xs ys : List (Ty.T TSubstation)) (hw : wt (.slice TSubstation) xs ≤ 1048576) : slices_Equal_impl_Substation_impl_Substation_p p xs ys = some (tbeq (.slice TSubstation) xs ys, ()) := by
  have hl := wt_len (e := TSubstation) xs
  unfold slices_Equal_impl_Substation_impl_Substation_p
  show _ = some (lbeq (tbeq TSubstation) xs ys, ())
  cases hn : ((xs.length : Int) != (ys.length : Int)) with
  | true => rw [cond_true, len_ne _ hn]
  | false => rw [cond_false, slices_Equal_impl_Substation_impl_Substation_l0_eq hp xs ys (by omega) (len_eq hn)]; cases lbeq (tbeq TSubstation) xs ys <;> rfl
theorem slices_Equal_impl_Fuel_impl_Fuel_l0_eq {p : Nat} {α : Type} (hp : maxLen < p) (xs ys : List (Ty.T TFuel)) (hw : xs.length ≤ 1048576) (hlen : xs.length = ys.length) (k0 : Bool → Option α) (k1 : Unit → Option α) :
    slices_Equal_impl_Fuel_impl_Fuel_l0_go p xs ys (xs.length : Int) p (0 : Int) k0 k1 = bif lbeq (tbeq TFuel) xs ys then k1 () else k0 false := by
  have hm : maxLen = 9223372036854775807 := rfl
  have hl : xs.length ≤ 1048576 := by exact hw
  exact eq_loop xs ys (tbeq TFuel) (fun q i => slices_Equal_impl_Fuel_impl_Fuel_l0_go p xs ys (xs.length : Int) q i k0 k1) (k0 false) (k1 ()) hlen
    (fun q => by simp only [slices_Equal_impl_Fuel_impl_Fuel_l0_go, slices_Equal_impl_Fuel_impl_Fuel_l0_r, dlt_end, cond_false])
    (fun q i a b hg hg2 => by
      have hi := lt_of_get hg
      simp only [slices_Equal_impl_Fuel_impl_Fuel_l0_go, slices_Equal_impl_Fuel_impl_Fuel_l0_r, dlt_get hg, cond_true, if_pos (Int.natCast_nonneg i), Int.toNat_natCast, hg, hg2, Option.bind_some, wrap_succ (show i < 9223372036854775807 by omega)]
      simp only [TFuel, tbeq, Bool.and_true]; exact cond_not _ _ _)
    p (by omega)
theorem slices_Equal_impl_Fuel_impl_Fuel_eq {p : Nat} (hp : maxLen < p) (xs ys : List (Ty.T TFuel)) (hw : wt (.slice TFuel) xs ≤ 1048576) : slices_Equal_impl_Fuel_impl_Fuel_p p xs ys = some (tbeq (.slice TFuel) xs ys, ()) := by
  have hl := wt_len (e := TFuel) xs
  unfold slices_Equal_impl_Fuel_impl_Fuel_p
  show _ = some (lbeq (tbeq TFuel) xs ys, ())
  cases hn : ((xs.length : Int) != (ys.length : Int)) with
  | true => rw [cond_true, len_ne _ hn]
  | false => rw [cond_false, slices_Equal_impl_Fuel_impl_Fuel_l0_eq hp xs ys (by omega) (len_eq hn)]; cases lbeq (tbeq TFuel) xs ys <;> rfl
theorem slices_Equal_impl_Repair_impl_Repair_l0_eq {p : Nat} {α : Type} (hp : maxLen < p) (xs ys : List (Ty.T TFuel)) (hw : xs.length ≤ 1048576) (hlen : xs.length = ys.length) (k0 : Bool → Option α) (k1 : Unit → Option α) :
    slices_Equal_impl_Repair_impl_Repair_l0_go p xs ys (xs.length : Int) p (0 : Int) k0 k1 = bif lbeq (tbeq TFuel) xs ys then k1 () else k0 false := by
  have hm : maxLen = 9223372036854775807 := rfl
  have hl : xs.length ≤ 1048576 := by exact hw
  exact eq_loop xs ys (tbeq TFuel) (fun q i => slices_Equal_impl_Repair_impl_Repair_l0_go p xs ys (xs.length : Int) q i k0 k1) (k0 false) (k1 ()) hlen
    (fun q => by simp only [slices_Equal_impl_Repair_impl_Repair_l0_go, slices_Equal_impl_Repair_impl_Repair_l0_r, dlt_end, cond_false])
    (fun q i a b hg hg2 => by
      have hi := lt_of_get hg
      simp only [slices_Equal_impl_Repair_impl_Repair_l0_go, slices_Equal_impl_Repair_impl_Repair_l0_r, dlt_get hg, cond_true, if_pos (Int.natCast_nonneg i), Int.toNat_natCast, hg, hg2, Option.bind_some, wrap_succ (show i < 9223372036854775807 by omega)]
      simp only [TFuel, tbeq, Bool.and_true]; exact cond_not _ _ _)
    p (by omega)
theorem slices_Equal_impl_Repair_impl_Repair_eq {p : Nat} (hp : maxLen < p) (xs ys : List (Ty.T TFuel)) (hw : wt (.slice TFuel) xs ≤ 1048576) : slices_Equal_impl_Repair_impl_Repair_p p xs ys = some (tbeq (.slice TFuel) xs ys, ()) := by
  have hl := wt_len (e := TFuel) xs
  unfold slices_Equal_impl_Repair_impl_Repair_p
  show _ = some (lbeq (tbeq TFuel) xs ys, ())
  cases hn : ((xs.length : Int) != (ys.length : Int)) with
  | true => rw [cond_true, len_ne _ hn]
  | false => rw [cond_false, slices_Equal_impl_Repair_impl_Repair_l0_eq hp xs ys (by omega) (len_eq hn)]; cases lbeq (tbeq TFuel) xs ys <;> rfl
theorem slices_Equal_impl_Tenant_impl_Tenant_l0_eq {p : Nat} {α : Type} (hp : maxLen < p) (xs ys : List (Ty.T TTenant)) (hw : xs.length ≤ 1048576) (hlen : xs.length = ys.length) (k0 : Bool → Option α) (k1 : Unit → Option α) :
    slices_Equal_impl_Tenant_impl_Tenant_l0_go p xs ys (xs.length : Int) p (0 : Int) k0 k1 = bif lbeq (tbeq TTenant) xs ys then k1 () else k0 false := by
  have hm : maxLen = 9223372036854775807 := rfl
  have hl : xs.length ≤ 1048576 := by exact hw
  exact eq_loop xs ys (tbeq TTenant) (fun q i => slices_Equal_impl_Tenant_impl_Tenant_l0_go p xs ys (xs.length : Int) q i k0 k1) (k0 false) (k1 ()) hlen
    (fun q => by simp only [slices_Equal_impl_Tenant_impl_Tenant_l0_go, slices_Equal_impl_Tenant_impl_Tenant_l0_r, dlt_end, cond_false])
    (fun q i a b hg hg2 => by
      have hi := lt_of_get hg
      simp only [slices_Equal_impl_Tenant_impl_Tenant_l0_go, slices_Equal_impl_Tenant_impl_Tenant_l0_r, dlt_get hg, cond_true, if_pos (Int.natCast_nonneg i), Int.toNat_natCast, hg, hg2, Option.bind_some, wrap_succ (show i < 9223372036854775807 by omega)]
      simp only [TTenant, tbeq, Bool.and_true]; exact cond_not _ _ _)
    p (by omega)
theorem slices_Equal_impl_Tenant_impl_Tenant_eq {p : Nat} (hp : maxLen < p) (xs ys : List (Ty.T TTenant)) (hw : wt (.slice TTenant) xs ≤ 1048576) : slices_Equal_impl_Tenant_impl_Tenant_p p xs ys = some (tbeq (.slice TTenant) xs ys, ()) := by
  have hl := wt_len (e := TTenant) xs
  unfold slices_Equal_impl_Tenant_impl_Tenant_p
  show _ = some (lbeq (tbeq TTenant) xs ys, ())
  cases hn : ((xs.length : Int) != (ys.length : Int)) with
  | true => rw [cond_true, len_ne _ hn]
  | false => rw [cond_false, slices_Equal_impl_Tenant_impl_Tenant_l0_eq hp xs ys (by omega) (len_eq hn)]; cases lbeq (tbeq TTenant) xs ys <;> rfl
theorem slices_Equal_impl_Duty_impl_Duty_l0_eq {p : Nat} {α : Type} (hp : maxLen < p) (xs ys : List (Ty.T TDuty)) (hw : xs.length ≤ 1048576) (hlen : xs.length = ys.length) (k0 : Bool → Option α) (k1 : Unit → Option α) :
    slices_Equal_impl_Duty_impl_Duty_l0_go p xs ys (xs.length : Int) p (0 : Int) k0 k1 = bif lbeq (tbeq TDuty) xs ys then k1 () else k0 false := by
  have hm : maxLen = 9223372036854775807 := rfl
  have hl : xs.length ≤ 1048576 := by exact hw
  exact eq_loop xs ys (tbeq TDuty) (fun q i => slices_Equal_impl_Duty_impl_Duty_l0_go p xs ys (xs.length : Int) q i k0 k1) (k0 false) (k1 ()) hlen
    (fun q => by simp only [slices_Equal_impl_Duty_impl_Duty_l0_go, slices_Equal_impl_Duty_impl_Duty_l0_r, dlt_end, cond_false])
    (fun q i a b hg hg2 => by
      have hi := lt_of_get hg
      simp only [slices_Equal_impl_Duty_impl_Duty_l0_go, slices_Equal_impl_Duty_impl_Duty_l0_r, dlt_get hg, cond_true, if_pos (Int.natCast_nonneg i), Int.toNat_natCast, hg, hg2, Option.bind_some, wrap_succ (show i < 9223372036854775807 by omega)]
      simp only [TDuty, tbeq, Bool.and_true]; exact cond_not _ _ _)
    p (by omega)
theorem slices_Equal_impl_Duty_impl_Duty_eq {p : Nat} (hp : maxLen < p) (xs ys : List (Ty.T TDuty)) (hw : wt (.slice TDuty) xs ≤ 1048576) : slices_Equal_impl_Duty_impl_Duty_p p xs ys = some (tbeq (.slice TDuty) xs ys, ()) := by
  have hl := wt_len (e := TDuty) xs
  unfold slices_Equal_impl_Duty_impl_Duty_p
  show _ = some (lbeq (tbeq TDuty) xs ys, ())
  cases hn : ((xs.length : Int) != (ys.length : Int)) with
  | true => rw [cond_true, len_ne _ hn]
  | false => rw [cond_false, slices_Equal_impl_Duty_impl_Duty_l0_eq hp xs ys (by omega) (len_eq hn)]; cases lbeq (tbeq TDuty) xs ys <;> rfl
theorem spec_l08Same_l0_eq {p : Nat} {α : Type} (hp : maxLen < p) (x y : Ty.T TPump) (hw : wt TPump x ≤ 1048576) (hlen : x.2.length = y.2.length) (k0 : Bool → Option α) (k1 : Unit → Option α) :
    spec_l08Same_l0_go p x y p (0 : Int) k0 k1 = bif lbeq (tbeq (.slice (.int .i64))) x.2 y.2 then k1 () else k0 false := by
  have hm : maxLen = 9223372036854775807 := rfl
  have hz : wt TPump x = x.1.size + wt (.slice (.slice (.int .i64))) x.2 := rfl
  have hl := wt_len (e := (.slice (.int .i64))) x.2
  exact eq_loop x.2 y.2 (tbeq (.slice (.int .i64))) (fun q i => spec_l08Same_l0_go p x y q i k0 k1) (k0 false) (k1 ()) hlen
    (fun q => by simp only [spec_l08Same_l0_go, spec_l08Same_l0_r, dlt_end, cond_false])
    (fun q i a b hg hg2 => by
      have hi := lt_of_get hg
      simp only [spec_l08Same_l0_go, spec_l08Same_l0_r, dlt_get hg, cond_true, if_pos (Int.natCast_nonneg i), Int.toNat_natCast, hg, hg2, Option.bind_some, spec_l00Same_eq hp a b (by have := wt_mem (e := .slice (.int .i64)) hg; omega), wrap_succ (show i < 9223372036854775807 by omega)]
      cases tbeq (.slice (.int .i64)) a b <;> rfl)
    p (by omega)
theorem spec_l08Same_eq {p : Nat} (hp : maxLen < p) (x y : Ty.T TPump) (hw : wt TPump x ≤ 1048576) : spec_l08Same_p p x y = some (tbeq TPump x y, ()) := by
  unfold spec_l08Same_p
  show _ = some ((x.1.toList == y.1.toList) && lbeq (tbeq (.slice (.int .i64))) x.2 y.2, ())
  cases (x.1.toList == y.1.toList) with
  | false => rfl
  | true =>
    simp only [Bool.not_true, cond_false, cond_true, Bool.true_and]
    cases hn : ((x.2.length : Int) != (y.2.length : Int)) with
    | true => rw [cond_true, len_ne _ hn]
    | false => rw [cond_false, spec_l08Same_l0_eq hp x y hw (len_eq hn)]; cases lbeq (tbeq (.slice (.int .i64))) x.2 y.2 <;> rfl
theorem impl_SamePump_l0_eq {p : Nat} {α : Type} (hp : maxLen < p) (x y : Ty.T TPump) (hw : wt TPump x ≤ 1048576) (hlen : x.2.length = y.2.length) (k0 : Bool → Option α) (k1 : Unit → Option α) :
    impl_SamePump_l0_go p y.2 x.2 (x.2.length : Int) p (0 : Int) k0 k1 = bif lbeq (tbeq (.slice (.int .i64))) x.2 y.2 then k1 () else k0 false := by
  have hm : maxLen = 9223372036854775807 := rfl
  have hz : wt TPump x = x.1.size + wt (.slice (.slice (.int .i64))) x.2 := rfl
  have hl := wt_len (e := (.slice (.int .i64))) x.2
  exact eq_loop x.2 y.2 (tbeq (.slice (.int .i64))) (fun q i => impl_SamePump_l0_go p y.2 x.2 (x.2.length : Int) q i k0 k1) (k0 false) (k1 ()) hlen
    (fun q => by simp only [impl_SamePump_l0_go, impl_SamePump_l0_r, dlt_end, cond_false])
    (fun q i a b hg hg2 => by
      have hi := lt_of_get hg
      simp only [impl_SamePump_l0_go, impl_SamePump_l0_r, dlt_get hg, cond_true, if_pos (Int.natCast_nonneg i), Int.toNat_natCast, hg, hg2, Option.bind_some, slices_Equal_int64_int64_eq hp a b (by have := wt_mem (e := .slice (.int .i64)) hg; omega), wrap_succ (show i < 9223372036854775807 by omega)]
      cases tbeq (.slice (.int .i64)) a b <;> rfl)
    p (by omega)
theorem impl_SamePump_eq {p : Nat} (hp : maxLen < p) (x y : Ty.T TPump) (hw : wt TPump x ≤ 1048576) : impl_SamePump_p p x y = some (tbeq TPump x y, ()) := by
  unfold impl_SamePump_p
  show _ = some ((x.1.toList == y.1.toList) && lbeq (tbeq (.slice (.int .i64))) x.2 y.2, ())
  cases (x.1.toList == y.1.toList) with
  | false => rfl
  | true =>
    simp only [Bool.not_true, cond_false, cond_true, Bool.true_and]
    cases hn : ((x.2.length : Int) != (y.2.length : Int)) with
    | true => rw [cond_true, len_ne _ hn]
    | false => rw [cond_false, impl_SamePump_l0_eq hp x y hw (len_eq hn)]; cases lbeq (tbeq (.slice (.int .i64))) x.2 y.2 <;> rfl
theorem spec_SameDesk_l1_eq {p : Nat} {α : Type} (hp : maxLen < p) (xs ys : List (Ty.T TPump)) (hw : wt (.slice TPump) xs ≤ 1048576) (hlen : xs.length = ys.length) (k0 : Bool → Option α) (k1 : Unit → Option α) :
    spec_SameDesk_l1_go p xs ys p (0 : Int) k0 k1 = bif lbeq (tbeq TPump) xs ys then k1 () else k0 false := by
  have hm : maxLen = 9223372036854775807 := rfl
  have hl : xs.length ≤ 1048576 := by have := wt_len (e := TPump) xs; omega
  exact eq_loop xs ys (tbeq TPump) (fun q i => spec_SameDesk_l1_go p xs ys q i k0 k1) (k0 false) (k1 ()) hlen
    (fun q => by simp only [spec_SameDesk_l1_go, spec_SameDesk_l1_r, dlt_end, cond_false])
    (fun q i a b hg hg2 => by
      have hi := lt_of_get hg
      simp only [spec_SameDesk_l1_go, spec_SameDesk_l1_r, dlt_get hg, cond_true, if_pos (Int.natCast_nonneg i), Int.toNat_natCast, hg, hg2, Option.bind_some, spec_l08Same_eq hp a b (by have := wt_mem (e := TPump) hg; omega), wrap_succ (show i < 9223372036854775807 by omega)]
      cases tbeq TPump a b <;> rfl)
    p (by omega)
theorem impl_SameDesk_l0_eq {p : Nat} {α : Type} (hp : maxLen < p) (xs ys : List (Ty.T TPump)) (hw : wt (.slice TPump) xs ≤ 1048576) (hlen : xs.length = ys.length) (k0 : Bool → Option α) (k1 : Unit → Option α) :
    impl_SameDesk_l0_go p ys xs (xs.length : Int) p (0 : Int) k0 k1 = bif lbeq (tbeq TPump) xs ys then k1 () else k0 false := by
  have hm : maxLen = 9223372036854775807 := rfl
  have hl : xs.length ≤ 1048576 := by have := wt_len (e := TPump) xs; omega
  exact eq_loop xs ys (tbeq TPump) (fun q i => impl_SameDesk_l0_go p ys xs (xs.length : Int) q i k0 k1) (k0 false) (k1 ()) hlen
    (fun q => by simp only [impl_SameDesk_l0_go, impl_SameDesk_l0_r, dlt_end, cond_false])
    (fun q i a b hg hg2 => by
      have hi := lt_of_get hg
      simp only [impl_SameDesk_l0_go, impl_SameDesk_l0_r, dlt_get hg, cond_true, if_pos (Int.natCast_nonneg i), Int.toNat_natCast, hg, hg2, Option.bind_some, impl_SamePump_eq hp a b (by have := wt_mem (e := TPump) hg; omega), wrap_succ (show i < 9223372036854775807 by omega)]
      cases tbeq TPump a b <;> rfl)
    p (by omega)
end Go.Proofs.Ytekplllopcmooaa.W
