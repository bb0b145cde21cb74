/- Rounded quotients and products within bounds. No program in sight. No condition. -/
import Derived.Test.YtgmcefnlcalagaaPV0
namespace Go.Proofs.Ytgmcefnlcalagaa.W
open Go Go.RowKit Go.Proofs.Ytgmcefnlcalagaa.AM
set_option linter.unusedVariables false
set_option linter.unusedSimpArgs false

theorem mul_bd {a b A B : Int} (ha : 0 ≤ a) (hA : a ≤ A) (hb : 0 ≤ b) (hB : b ≤ B) : 0 ≤ a * b ∧ a * b ≤ A * B :=
  ⟨Int.mul_nonneg ha hb, Int.mul_le_mul hA hB hb (by omega)⟩

/-- The nearest quotient by a positive number, halves away from 0. -/
def divR (a b : Int) : Int := if a < 0 then -((b - 2 * a) / (2 * b)) else (2 * a + b) / (2 * b)

theorem half_up {a b : Int} (ha : 0 ≤ a) (hb : 0 < b) : (2 * a + b) / (2 * b) = if a % b ≥ b - a % b then a / b + 1 else a / b := by
  have h1 := Int.emod_nonneg a (show b ≠ 0 by omega)
  have h2 := Int.emod_lt_of_pos a hb
  have h3 := Int.mul_ediv_add_emod a b
  have h4 : 2 * b * (a / b) = 2 * (b * (a / b)) := Int.mul_assoc 2 b (a / b)
  split
  · have h5 : 2 * b * (a / b + 1) = 2 * (b * (a / b)) + 2 * b := by rw [Int.mul_add, h4]; omega
    refine ((Int.ediv_emod_unique (a := 2 * a + b) (b := 2 * b) (q := a / b + 1) (r := 2 * (a % b) - b) (by omega)).2 ⟨?_, by omega, by omega⟩).1
    rw [h5]; omega
  · refine ((Int.ediv_emod_unique (a := 2 * a + b) (b := 2 * b) (q := a / b) (r := 2 * (a % b) + b) (by omega)).2 ⟨?_, by omega, by omega⟩).1
    rw [h4]; omega

theorem divR_neg {a b : Int} (ha : a < 0) (hb : 0 < b) : divR a b = -(if (-a) % b ≥ b - (-a) % b then (-a) / b + 1 else (-a) / b) := by
  unfold divR
  rw [if_pos ha, show b - 2 * a = 2 * (-a) + b by omega, half_up (by omega) hb]

theorem divR_pos {a b : Int} (ha : 0 ≤ a) (hb : 0 < b) : divR a b = if a % b ≥ b - a % b then a / b + 1 else a / b := by
  unfold divR
  rw [if_neg (by omega), half_up ha hb]

theorem divR_bd {a b : Int} (hb : 0 < b) {M : Int} (hM : -M ≤ a ∧ a ≤ M) : -M - 1 ≤ divR a b ∧ divR a b ≤ M + 1 := by
  have key : ∀ c : Int, 0 ≤ c → c ≤ M → 0 ≤ (2 * c + b) / (2 * b) ∧ (2 * c + b) / (2 * b) ≤ M + 1 := fun c h0 h1 => by
    refine ⟨Int.ediv_nonneg (by omega) (by omega), ?_⟩
    rw [half_up h0 hb]
    have : c / b ≤ c := Int.ediv_le_self b h0
    split <;> omega
  unfold divR
  split
  · have := key (-a) (by omega) (by omega)
    rw [show b - 2 * a = 2 * (-a) + b by omega]; omega
  · have := key a (by omega) (by omega); omega

theorem divR_nonneg {a b : Int} (ha : 0 ≤ a) (hb : 0 < b) : 0 ≤ divR a b := by
  unfold divR
  rw [if_neg (by omega)]
  exact Int.ediv_nonneg (by omega) (by omega)

end Go.Proofs.Ytgmcefnlcalagaa.W
