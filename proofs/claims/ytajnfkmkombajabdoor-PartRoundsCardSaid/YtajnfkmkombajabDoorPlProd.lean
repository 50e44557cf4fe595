/- Plain: the document's product, bit by bit. No program in sight. -/
import Derived.WalkKit
set_option linter.unusedVariables false
set_option linter.unusedSimpArgs false
namespace Go.Proofs.YtajnfkmkombajabDoor
open Go.RowKit

theorem prod_step {b c n left A bit : Nat} (hc : 0 < c) (hn : n = A * b / c) (hl : left = A * b % c) :
    2 * n + (2 * left + bit * b) / c = (2 * A + bit) * b / c ∧ (2 * left + bit * b) % c = (2 * A + bit) * b % c := by
  have h := Nat.div_add_mod (A * b) c
  rw [← hn, ← hl] at h
  have e : (2 * A + bit) * b = (2 * left + bit * b) + c * (2 * n) := by
    rw [Nat.add_mul, Nat.mul_assoc, ← h, Nat.mul_add, Nat.mul_left_comm]; omega
  rw [e, Nat.add_mul_div_left _ _ hc, Nat.add_mul_mod_self_left]
  exact ⟨Nat.add_comm _ _, rfl⟩
theorem half_of (a k : Nat) : a / 2 ^ k = 2 * (a / 2 ^ (k + 1)) + a / 2 ^ k % 2 := by
  rw [Nat.pow_succ, ← Nat.div_div_eq_div_mul]; omega
/-- the part so far is no more than the whole one -/
theorem part_le (a b c k : Nat) : a / 2 ^ k * b / c ≤ a * b / c := Nat.div_le_div_right (Nat.mul_le_mul_right _ (Nat.div_le_self _ _))
theorem top_zero {a : Nat} (h : a ≤ 1125899906842624) : a / 2 ^ 51 = 0 := Nat.div_eq_of_lt (by omega)
theorem bit_cases (x : Nat) : x % 2 = 0 ∨ x % 2 = 1 := by omega
end Go.Proofs.YtajnfkmkombajabDoor
