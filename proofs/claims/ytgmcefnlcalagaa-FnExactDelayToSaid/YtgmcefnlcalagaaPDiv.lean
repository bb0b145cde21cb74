/- The reference's and the program's rounded quotients. No condition. -/
import Derived.Test.YtgmcefnlcalagaaPArith
import Derived.Test.YtgmcefnlcalagaaPLaws
namespace Go.Proofs.Ytgmcefnlcalagaa.W
open Go Go.RowKit Go.Proofs.Ytgmcefnlcalagaa.AM
set_option linter.unusedVariables false
set_option linter.unusedSimpArgs false

theorem spec_l00Max_eq {p : Nat} (a b : Int) : spec_l00Max_p p a b = some (max a b, ()) := by
  unfold spec_l00Max_p
  by_cases h : a > b
  · rw [decide_eq_true h, cond_true, show max a b = a by omega]
  · rw [decide_eq_false h, cond_false, show max a b = b by omega]

theorem spec_l03Abs_eq {p : Nat} {a : Int} (h : -9000000000000000000 ≤ a ∧ a ≤ 9000000000000000000) : spec_l03Abs_p p a = some ((a.natAbs : Int), ()) := by
  unfold spec_l03Abs_p
  rw [wrap_in (n := 0 - a) (by omega) (by omega), spec_l00Max_eq]
  simp only [Option.bind_some]
  congr 2; omega

theorem impl_abs_eq {p : Nat} {a : Int} (h : -9000000000000000000 ≤ a ∧ a ≤ 9000000000000000000) : impl_abs_p p a = some ((a.natAbs : Int), ()) := by
  unfold impl_abs_p
  rw [wrap_in (n := 0 - a) (by omega) (by omega)]
  congr 2; split <;> omega

theorem spec_l01Div_eq {p : Nat} {a b : Int} (ha : -2000000000000000000 ≤ a ∧ a ≤ 2000000000000000000) (hb : 0 < b ∧ b ≤ 2000000000000000000) : spec_l01Div_p p a b = some (divR a b, ()) := by
  have w1 : IntKind.wrap .i64 ((2 : Int) * a) = 2 * a := wrap_in (by omega) (by omega)
  have w2 : IntKind.wrap .i64 ((2 : Int) * b) = 2 * b := wrap_in (by omega) (by omega)
  have bd := divR_bd hb.1 (M := 2000000000000000000) (by omega)
  unfold spec_l01Div_p
  rw [decide_eq_false (show ¬ b < 0 by omega), cond_false]
  by_cases h : a < 0
  · have e : (b - 2 * a).tdiv (2 * b) = (b - 2 * a) / (2 * b) := Int.tdiv_eq_ediv_of_nonneg (by omega)
    have hd : divR a b = -((b - 2 * a) / (2 * b)) := if_pos h
    rw [decide_eq_true h, cond_true, w1, w2, if_neg (by omega), wrap_in (n := b - 2 * a) (by omega) (by omega), e, wrap_in (n := (b - 2 * a) / (2 * b)) (by omega) (by omega), wrap_in (by omega) (by omega)]
    congr 2; omega
  · have e : (2 * a + b).tdiv (2 * b) = (2 * a + b) / (2 * b) := Int.tdiv_eq_ediv_of_nonneg (by omega)
    have hd : divR a b = (2 * a + b) / (2 * b) := if_neg h
    rw [decide_eq_false h, cond_false, w1, w2, if_neg (by omega), wrap_in (n := 2 * a + b) (by omega) (by omega), e, wrap_in (n := (2 * a + b) / (2 * b)) (by omega) (by omega), hd]

theorem impl_divRound_eq {p : Nat} {a b : Int} (ha : -2000000000000000000 ≤ a ∧ a ≤ 2000000000000000000) (hb : 0 < b ∧ b ≤ 2000000000000000000) : impl_divRound_p p a b = some (divR a b, ()) := by
  have bd := divR_bd hb.1 (M := 2000000000000000000) (by omega)
  unfold impl_divRound_p
  rw [if_neg (by omega), if_neg (by omega)]
  have hbf : decide (b < 0) = false := decide_eq_false (by omega)
  by_cases h : a < 0
  · have h1 := Int.emod_nonneg (-a) (show b ≠ 0 by omega)
    have h2 := Int.emod_lt_of_pos (-a) hb.1
    have e1 : a.tmod b = -((-a) % b) := by
      have : (-(-a)).tmod b = -((-a).tmod b) := Int.neg_tmod ..
      rw [Int.neg_neg] at this
      rw [this, Int.tmod_eq_emod_of_nonneg (by omega)]
    have e2 : a.tdiv b = -((-a) / b) := by
      have : (-(-a)).tdiv b = -((-a).tdiv b) := Int.neg_tdiv ..
      rw [Int.neg_neg] at this
      rw [this, Int.tdiv_eq_ediv_of_nonneg (by omega)]
    have hq : 0 ≤ (-a) / b := Int.ediv_nonneg (by omega) (by omega)
    have hq2 : (-a) / b ≤ -a := Int.ediv_le_self b (by omega)
    rw [e1, e2, impl_abs_eq (by omega), impl_abs_eq (by omega)]
    simp only [Option.bind_some]
    rw [show (((-((-a) % b)).natAbs : Nat) : Int) = (-a) % b by omega, show ((b.natAbs : Nat) : Int) = b by omega, wrap_in (n := b - (-a) % b) (by omega) (by omega), divR_neg h hb.1, decide_eq_true h, hbf, wrap_in (n := -((-a) / b)) (by omega) (by omega)]
    by_cases h3 : (-a) % b ≥ b - (-a) % b
    · rw [decide_eq_true h3, if_pos h3, show -((-a) / b + 1) = -((-a) / b) - 1 by omega]
      show some (IntKind.wrap .i64 (-((-a) / b) - 1), ()) = _
      rw [wrap_in (n := -((-a) / b) - 1) (by omega) (by omega)]
    · rw [decide_eq_false h3, if_neg h3]; rfl
  · have h1 := Int.emod_nonneg a (show b ≠ 0 by omega)
    have h2 := Int.emod_lt_of_pos a hb.1
    have e1 : a.tmod b = a % b := Int.tmod_eq_emod_of_nonneg (by omega)
    have e2 : a.tdiv b = a / b := Int.tdiv_eq_ediv_of_nonneg (by omega)
    have hq : 0 ≤ a / b := Int.ediv_nonneg (by omega) (by omega)
    have hq2 : a / b ≤ a := Int.ediv_le_self b (by omega)
    rw [e1, e2, impl_abs_eq (by omega), impl_abs_eq (by omega)]
    simp only [Option.bind_some]
    rw [show (((a % b).natAbs : Nat) : Int) = a % b by omega, show ((b.natAbs : Nat) : Int) = b by omega, wrap_in (n := b - a % b) (by omega) (by omega), divR_pos (by omega) hb.1, decide_eq_false h, hbf, wrap_in (n := a / b) (by omega) (by omega)]
    by_cases h3 : a % b ≥ b - a % b
    · rw [decide_eq_true h3, if_pos h3]
      show some (IntKind.wrap .i64 (a / b + 1), ()) = _
      rw [wrap_in (by omega) (by omega)]
    · rw [decide_eq_false h3, if_neg h3]; rfl

end Go.Proofs.Ytgmcefnlcalagaa.W
