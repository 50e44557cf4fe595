/- Plain: the document's bend. No program in sight. -/
import Derived.Test.YtajnfkmkombajabDoorPlBend
set_option linter.unusedVariables false
set_option linter.unusedSimpArgs false
namespace Go.Proofs.YtajnfkmkombajabDoor
open Go.RowKit

/-- falling: as much less as it is up -/
theorem fall_eq {a b N : Int} (hb : 1 ≤ b) (hN : a = -N) : a / b = -((N + b - 1) / b) := by
  subst hN
  have h1 := Int.emod_add_mul_ediv (N + b - 1) b
  have h2 := Int.emod_nonneg (N + b - 1) (show b ≠ 0 by omega)
  have h3 := Int.emod_lt_of_pos (N + b - 1) (show 0 < b by omega)
  generalize (N + b - 1) / b = q at *
  generalize (N + b - 1) % b = r at *
  have h4 : -N = (b - 1 - r) + b * (-q) := by rw [Int.mul_neg]; omega
  rw [h4, Int.add_mul_ediv_left _ _ (show b ≠ 0 by omega), Int.ediv_eq_zero_of_lt (by omega) (by omega)]
  omega

theorem bend_fall {p q : Int × Int} {x : Int} (hw : 1 ≤ q.1 - p.1) : p.2 + (q.2 - p.2) * (x - p.1) / (q.1 - p.1) = p.2 - ((p.2 - q.2) * (x - p.1) + (q.1 - p.1) - 1) / (q.1 - p.1) := by
  have h : (q.2 - p.2) * (x - p.1) = -((p.2 - q.2) * (x - p.1)) := by rw [← Int.neg_mul]; congr 1; omega
  rw [fall_eq hw h]; omega
theorem mul_small {a b : Int} (h0 : 0 ≤ a) (h1 : a ≤ 1000000) (h2 : 0 ≤ b) (h3 : b ≤ 1000000) : 0 ≤ a * b ∧ a * b ≤ 1000000000000 := by
  refine ⟨Int.mul_nonneg h0 h2, ?_⟩
  have := Int.mul_le_mul h1 h3 h2 (by omega : (0 : Int) ≤ 1000000)
  omega
theorem div_small {a b : Int} (h0 : 0 ≤ a) (h1 : a ≤ 2000000000000) (hb : 1 ≤ b) : a.tdiv b = a / b ∧ 0 ≤ a / b ∧ a / b ≤ 2000000000000 := by
  refine ⟨Int.tdiv_eq_ediv_of_nonneg h0, Int.ediv_nonneg h0 (by omega), ?_⟩
  have := Int.ediv_le_self b h0
  omega
end Go.Proofs.YtajnfkmkombajabDoor
