/- Plain: what package part reckons. No program in sight. -/
import Derived.WalkKit
set_option linter.unusedVariables false
set_option linter.unusedSimpArgs false
namespace Go.Proofs.YtajnfkmkombajaaDoor
open Go.RowKit

/-- 2^50 -/
abbrev MaxA : Int := 1125899906842624
/-- is it an amount? -/
def amtB (n : Int) : Bool := decide (0 ≤ n) && decide (n ≤ 1125899906842624)
theorem amtB_iff {n : Int} : amtB n = true ↔ 0 ≤ n ∧ n ≤ 1125899906842624 := by simp [amtB]
theorem amtB_false {n : Int} : amtB n = false ↔ ¬ (0 ≤ n ∧ n ≤ 1125899906842624) := by rw [← amtB_iff]; simp

/-- may a times b over c be told, and is it an amount? -/
def overOk (a b c : Int) : Prop := (0 ≤ a ∧ a ≤ 1125899906842624) ∧ (0 ≤ b ∧ b ≤ 1125899906842624) ∧ (1 ≤ c ∧ c ≤ 1125899906842624) ∧ a * b / c ≤ 1125899906842624
instance (a b c : Int) : Decidable (overOk a b c) := by unfold overOk; infer_instance
def overC (a b c : Int) : Nat := if overOk a b c then 0 else 2
def overN (a b c : Int) : Int := if overOk a b c then a * b / c else 0
def overR (a b c : Int) : Int := if overOk a b c then a * b % c else 0
theorem over_yes {a b c : Int} (h : overOk a b c) : overC a b c = 0 ∧ overN a b c = a * b / c ∧ overR a b c = a * b % c := by simp [overC, overN, overR, h]
theorem over_no {a b c : Int} (h : ¬ overOk a b c) : overC a b c = 2 ∧ overN a b c = 0 ∧ overR a b c = 0 := by simp [overC, overN, overR, h]

def upOk (a b c : Int) : Prop := overOk a b c ∧ a * b / c + (if a * b % c = 0 then 0 else 1) ≤ 1125899906842624
instance (a b c : Int) : Decidable (upOk a b c) := by unfold upOk; infer_instance
def upC (a b c : Int) : Nat := if upOk a b c then 0 else 2
def upN (a b c : Int) : Int := if upOk a b c then a * b / c + (if a * b % c = 0 then 0 else 1) else 0
theorem up_yes {a b c : Int} (h : upOk a b c) : upC a b c = 0 ∧ upN a b c = a * b / c + (if a * b % c = 0 then 0 else 1) := by simp [upC, upN, h]
theorem up_no {a b c : Int} (h : ¬ upOk a b c) : upC a b c = 2 ∧ upN a b c = 0 := by simp [upC, upN, h]
end Go.Proofs.YtajnfkmkombajaaDoor
