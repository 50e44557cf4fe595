/- Plain: what package issue reckons. No program in sight. -/
import Derived.Test.YtajnfkmkombajabDoorPlPart
import Derived.Test.YtajnfkmkombajabDoorPlBend
set_option linter.unusedVariables false
set_option linter.unusedSimpArgs false
namespace Go.Proofs.YtajnfkmkombajabDoor
open Go.RowKit

/-- the bend of rates -/
def rateL : List (Int × Int) := [(0, 40000), (250000, 20000), (500000, 10000), (1000000, 5000)]
theorem rateL_right : (checkF rateL).1 = 0 := by decide
theorem rateL_at {x : Int} (h0 : 0 ≤ x) (h1 : x ≤ 1000000) : bendV rateL x =
    if x < 250000 then 40000 + (-20000) * x / 250000 else if x < 500000 then 20000 + (-10000) * (x - 250000) / 250000 else if x < 1000000 then 10000 + (-5000) * (x - 500000) / 500000 else 5000 := by
  unfold bendV
  rw [if_neg (by simp [rateL]; omega)]
  simp only [rateL, bendGo]
  simp only [show (20000 : Int) - 40000 = -20000 from rfl, show (10000 : Int) - 20000 = -10000 from rfl, show (5000 : Int) - 10000 = -5000 from rfl, Int.sub_zero, show (500000 : Int) - 250000 = 250000 from rfl, show (1000000 : Int) - 500000 = 500000 from rfl]
theorem rateL_bounds {x : Int} (h0 : 0 ≤ x) (h1 : x ≤ 1000000) : 5000 ≤ bendV rateL x ∧ bendV rateL x ≤ 40000 := by
  rw [rateL_at h0 h1]; split
  · omega
  · split
    · omega
    · split <;> omega
theorem rateL_falls {x y : Int} (h0 : 0 ≤ x) (hxy : x ≤ y) (h1 : y ≤ 1000000) : bendV rateL y ≤ bendV rateL x := by
  rw [rateL_at h0 (by omega), rateL_at (by omega) h1]
  by_cases a1 : x < 250000 <;> by_cases a2 : x < 500000 <;> by_cases a3 : x < 1000000 <;> by_cases b1 : y < 250000 <;> by_cases b2 : y < 500000 <;> by_cases b3 : y < 1000000 <;> simp only [a1, a2, a3, b1, b2, b3, if_true, if_false] <;> omega

/-- may it be a ratio of these? -/
def ratioOk (s p : Int) : Prop := 0 ≤ s ∧ s ≤ p ∧ 1 ≤ p ∧ p ≤ 1125899906842624
instance (s p : Int) : Decidable (ratioOk s p) := by unfold ratioOk; infer_instance
def ratioN (s p : Int) : Int := if ratioOk s p then s * 1000000 / p else 0
def ratioC (s p : Int) : Nat := if ratioOk s p then 0 else 2
theorem ratio_over {s p : Int} (h : ratioOk s p) : overOk s 1000000 p := by
  obtain ⟨h0, h1, h2, h3⟩ := h
  have : s * 1000000 / p ≤ 1000000 := by
    have h := Int.ediv_le_ediv (show 0 < p by omega) (show s * 1000000 ≤ 1000000 * p by omega)
    rwa [Int.mul_ediv_cancel _ (show p ≠ 0 by omega)] at h
  exact ⟨by omega, by omega, by omega, by omega⟩
theorem ratio_in {s p : Int} (h : ratioOk s p) : 0 ≤ ratioN s p ∧ ratioN s p ≤ 1000000 := by
  unfold ratioN; rw [if_pos h]
  obtain ⟨h0, h1, h2, h3⟩ := h
  have : s * 1000000 / p ≤ 1000000 := by
    have h := Int.ediv_le_ediv (show 0 < p by omega) (show s * 1000000 ≤ 1000000 * p by omega)
    rwa [Int.mul_ediv_cancel _ (show p ≠ 0 by omega)] at h
  exact ⟨Int.ediv_nonneg (by omega) (by omega), this⟩
theorem ratio_rises {s t p : Int} (h : ratioOk s p) (k : ratioOk t p) (hst : s ≤ t) : ratioN s p ≤ ratioN t p := by
  unfold ratioN; rw [if_pos h, if_pos k]
  exact Int.ediv_le_ediv (by have := h.2.2.1; omega) (by omega)

def rateOk (r b : Int) : Prop := 0 ≤ r ∧ r ≤ 1000000 ∧ 0 ≤ b ∧ b ≤ 5000
instance (s p : Int) : Decidable (rateOk s p) := by unfold rateOk; infer_instance
def rateC (r b : Int) : Nat := if rateOk r b then 0 else 2
def rateN (r b : Int) : Int := if rateOk r b then bendV rateL r + b else 0
def bonusN (b r : Int) : Int := if rateOk r b then (if r < 480000 then min 5000 (b + 100) else if 520000 < r then max 0 (b - 100) else b) else 0

def rewardOk (s r : Int) : Prop := (0 ≤ s ∧ s ≤ 1125899906842624) ∧ 0 ≤ r ∧ r ≤ 1000000
instance (s p : Int) : Decidable (rewardOk s p) := by unfold rewardOk; infer_instance
def rewardC (s r : Int) : Nat := if rewardOk s r then 0 else 2
def rewardN (s r : Int) : Int := if rewardOk s r then s * r / 1000000 / 4 else 0
theorem reward_over {s r : Int} (h : rewardOk s r) : overOk s r 1000000 := by
  obtain ⟨⟨h0, h1⟩, h2, h3⟩ := h
  have h4 : s * r ≤ s * 1000000 := Int.mul_le_mul_of_nonneg_left h3 h0
  exact ⟨by omega, by omega, by omega, by omega⟩
theorem reward_in {s r : Int} (h : rewardOk s r) : 0 ≤ rewardN s r ∧ rewardN s r ≤ s := by
  have h4 : s * r ≤ s * 1000000 := Int.mul_le_mul_of_nonneg_left h.2.2 h.1.1
  have h5 : 0 ≤ s * r := Int.mul_nonneg h.1.1 h.2.1
  unfold rewardN; rw [if_pos h]
  omega
end Go.Proofs.YtajnfkmkombajabDoor
