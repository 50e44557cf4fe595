/- Plain: numbers below a number, by lots: the first lot that serves is found. No program in sight. -/
import Derived.Test.YtajnfkmkombajaaDoorPlLots
set_option linter.unusedVariables false
set_option linter.unusedSimpArgs false
namespace Go.Proofs.YtajnfkmkombajaaDoor
open Go.RowKit

/-- half of the j-th lot of a seed -/
def lotHalf (s j : Nat) : Nat := lotN (lotSt s j) / 2
def endB (n : Nat) : Nat := 9223372036854775808 / n * n
theorem endB_pos {n : Nat} (h0 : 1 ≤ n) (h1 : n ≤ 1125899906842624) : 0 < endB n :=
  Nat.mul_pos (Nat.div_pos (by omega) h0) h0
theorem endB_le (n : Nat) : endB n ≤ 9223372036854775808 := Nat.div_mul_le_self _ _

theorem lotN_zero : lotN 0 = 0 := by decide
theorem lot_nought {s : Nat} (hs : s < 18446744073709551616) : ∃ j, 1 ≤ j ∧ lotSt s j = 0 := by
  refine ⟨(18446744073709551616 - s) * 17428512612931826493, Nat.mul_pos (by omega) (by decide), ?_⟩
  unfold lotSt
  obtain ⟨t, ht⟩ : ∃ t, t = 18446744073709551616 - s := ⟨_, rfl⟩
  have : s = 18446744073709551616 - t := by omega
  have hts : t ≤ 18446744073709551616 := by omega
  rw [← ht, this, Nat.mul_assoc]
  obtain ⟨q, hq⟩ : ∃ q : Nat, (17428512612931826493 : Nat) * 11400714819323198485 = q * 18446744073709551616 + 1 := ⟨17428512612931826493 * 11400714819323198485 / 18446744073709551616, by decide⟩
  rw [hq, Nat.mul_add, Nat.mul_one, ← Nat.mul_assoc, Nat.add_comm (t * q * 18446744073709551616), ← Nat.add_assoc, Nat.add_mul_mod_self_right]
  omega

theorem first_of {P : Nat → Prop} [DecidablePred P] : ∀ m, P m → ∃ j, P j ∧ ∀ i, i < j → ¬ P i := by
  intro m
  induction m using Nat.strongRecOn with
  | ind m ih =>
    intro hm
    by_cases h : ∃ i, i < m ∧ P i
    · obtain ⟨i, hi, hp⟩ := h; exact ih i hi hp
    · exact ⟨m, hm, fun i hi hp => h ⟨i, hi, hp⟩⟩

/-- J is the first lot that serves for numbers below n -/
structure FirstLot (s n J : Nat) : Prop where
  one : 1 ≤ J
  fits : lotHalf s J < endB n
  first : ∀ i, 1 ≤ i → i < J → endB n ≤ lotHalf s i

theorem firstLot_ex {s n : Nat} (hs : s < 18446744073709551616) (h0 : 1 ≤ n) (h1 : n ≤ 1125899906842624) : ∃ J, FirstLot s n J := by
  obtain ⟨m, hm1, hm⟩ := lot_nought hs
  obtain ⟨j, hj, hi⟩ := first_of (P := fun j => lotHalf s (j + 1) < endB n) (m - 1) (by
    show lotHalf s (m - 1 + 1) < endB n
    rw [show m - 1 + 1 = m by omega]; unfold lotHalf; rw [hm, lotN_zero]; exact endB_pos h0 h1)
  exact ⟨j + 1, by omega, hj, fun i h1 h2 => Nat.le_of_not_lt (by have := hi (i - 1) (by omega); rw [show i - 1 + 1 = i by omega] at this; exact this)⟩
theorem FirstLot.unique {s n J K : Nat} (h : FirstLot s n J) (k : FirstLot s n K) : J = K := by
  rcases Nat.lt_trichotomy J K with hl | hl | hl
  · have := k.first J h.one hl; have := h.fits; omega
  · exact hl
  · have := h.first K k.one hl; have := k.fits; omega

open Classical in
/-- how many lots it takes -/
noncomputable def firstLot (s n : Nat) : Nat := if h : ∃ J, FirstLot s n J then Classical.choose h else 0
theorem firstLot_is {s n : Nat} (hs : s < 18446744073709551616) (h0 : 1 ≤ n) (h1 : n ≤ 1125899906842624) : FirstLot s n (firstLot s n) := by
  have h := firstLot_ex hs h0 h1
  unfold firstLot; rw [dif_pos h]; exact Classical.choose_spec h
/-- the number that is told -/
noncomputable def belowN (s n : Nat) : Nat := lotHalf s (firstLot s n) % n
/-- the state behind it -/
noncomputable def belowS (s n : Nat) : Nat := lotSt s (firstLot s n)
theorem belowS_lt (s n : Nat) : belowS s n < 18446744073709551616 := lotSt_lt _ _
theorem belowN_lt {s n : Nat} (h : 1 ≤ n) : belowN s n < n := Nat.mod_lt _ h
theorem lotN_lt (z : Nat) : lotN z < 18446744073709551616 := by
  unfold lotN natC; exact xor_lt _ _ (natB_lt _)
theorem lotHalf_lt (s j : Nat) : lotHalf s j < 9223372036854775808 := by
  have := lotN_lt (lotSt s j); unfold lotHalf; omega

/-- the document's test: the stretch of n in which a lot lies is whole -/
theorem whole_stretch {n z : Nat} (h0 : 1 ≤ n) (h1 : n ≤ 1125899906842624) (hz : z < 9223372036854775808) : (z - z % n ≤ 9223372036854775807 - n + 1) ↔ z < endB n := by
  have hm : z % n + n * (z / n) = z := Nat.mod_add_div z n
  unfold endB
  obtain ⟨q, hq⟩ : ∃ q, q = z / n := ⟨_, rfl⟩
  obtain ⟨r, hr⟩ : ∃ r, r = z % n := ⟨_, rfl⟩
  have hrn : r < n := by rw [hr]; exact Nat.mod_lt _ h0
  rw [← hq, ← hr] at hm
  have e : z - r = n * q := by omega
  rw [← hr, e]
  have hiff : q + 1 ≤ 9223372036854775808 / n ↔ (q + 1) * n ≤ 9223372036854775808 := Nat.le_div_iff_mul_le h0
  rw [Nat.add_mul, Nat.mul_comm q n, Nat.one_mul] at hiff
  constructor
  · intro h
    have h2 : q + 1 ≤ 9223372036854775808 / n := hiff.2 (by omega)
    have h3 : (q + 1) * n ≤ 9223372036854775808 / n * n := Nat.mul_le_mul_right n h2
    rw [Nat.add_mul, Nat.mul_comm q n, Nat.one_mul] at h3
    omega
  · intro h
    have h2 : q + 1 ≤ 9223372036854775808 / n := by
      apply Decidable.byContradiction
      intro hn
      have h3 : 9223372036854775808 / n ≤ q := by omega
      have h4 : 9223372036854775808 / n * n ≤ q * n := Nat.mul_le_mul_right n h3
      rw [Nat.mul_comm q n] at h4
      omega
    have := hiff.1 h2
    omega
end Go.Proofs.YtajnfkmkombajaaDoor
