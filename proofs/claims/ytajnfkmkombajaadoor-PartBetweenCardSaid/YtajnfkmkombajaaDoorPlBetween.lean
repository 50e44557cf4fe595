/- Plain: a right bend goes through its points, and between two it is between them. No program in sight. -/
import Derived.Test.YtajnfkmkombajaaDoorPlBend
namespace Go.Proofs.YtajnfkmkombajaaDoor
open Go.RowKit

theorem BendOk.mono {l : List (Int × Int)} (B : BendOk l) {i : Nat} : ∀ j, i ≤ j → j < l.length → (l.getD i (0, 0)).1 ≤ (l.getD j (0, 0)).1
  | 0, h, _ => by rw [show i = 0 by omega]; omega
  | j + 1, h, hj => by
    rcases Nat.lt_or_ge j i with hji | hji
    · rw [show i = j + 1 by omega]; omega
    · have h1 := B.mono j hji (by omega)
      have h2 := B.rise j hj
      omega

theorem bend_from {l : List (Int × Int)} (B : BendOk l) {x : Int} : ∀ k, k < l.length → (l.getD k (0, 0)).1 ≤ x → bendV l x = bendGo (l.drop k) x
  | 0, hk, h => by unfold bendV; rw [if_neg (by omega)]; rfl
  | k + 1, hk, h => by
    have h2 := B.rise k hk
    rw [bend_from B k (by omega) (by omega)]
    exact bendGo_step hk (by omega)

/-- the value on a part of a bend, both ends with it -/
theorem bend_seg {l : List (Int × Int)} (B : BendOk l) {k : Nat} (hk : k + 1 < l.length) {x : Int} (h1 : (l.getD k (0, 0)).1 ≤ x) (h2 : x ≤ (l.getD (k + 1) (0, 0)).1) :
    bendV l x = (l.getD k (0, 0)).2 + ((l.getD (k + 1) (0, 0)).2 - (l.getD k (0, 0)).2) * (x - (l.getD k (0, 0)).1) / ((l.getD (k + 1) (0, 0)).1 - (l.getD k (0, 0)).1) := by
  by_cases hx : x < (l.getD (k + 1) (0, 0)).1
  · rw [bend_from B k (by omega) h1]; exact bendGo_here hk hx
  · have he : x = (l.getD (k + 1) (0, 0)).1 := by omega
    have hr := B.rise k hk
    rw [bend_from B (k + 1) hk (by omega), he, Int.mul_ediv_cancel _ (by omega)]
    by_cases hl : k + 1 + 1 < l.length
    · have hr2 := B.rise (k + 1) hl
      rw [bendGo_here hl hr2, Int.sub_self, Int.mul_zero, Int.zero_ediv]; omega
    · rw [bendGo_last (by omega)]; omega

structure BetweenOk (p q : Int × Int) (a b c : Int) : Prop where
  a0 : a = p.2
  up : p.2 ≤ q.2 → p.2 ≤ b ∧ b ≤ q.2 ∧ b ≤ c
  dn : q.2 < p.2 → b ≤ p.2 ∧ q.2 ≤ b ∧ c ≤ b

theorem between {l : List (Int × Int)} (B : BendOk l) {k : Nat} (hk : k + 1 < l.length) {x : Int} (h1 : (l.getD k (0, 0)).1 ≤ x) (h2 : x < (l.getD (k + 1) (0, 0)).1) :
    BetweenOk (l.getD k (0, 0)) (l.getD (k + 1) (0, 0)) (bendV l (l.getD k (0, 0)).1) (bendV l x) (bendV l (x + 1)) := by
  have hr := B.rise k hk
  have ea := bend_seg B hk (x := (l.getD k (0, 0)).1) (by omega) (by omega)
  have eb := bend_seg B hk h1 (by omega)
  have ec := bend_seg B hk (x := x + 1) (by omega) (by omega)
  rw [ea, eb, ec]
  clear ea eb ec B
  generalize l.getD k (0, 0) = p at *
  generalize l.getD (k + 1) (0, 0) = q at *
  obtain ⟨px, py⟩ := p
  obtain ⟨qx, qy⟩ := q
  simp only at h1 h2 hr ⊢
  have hD : 0 < qx - px := by omega
  refine ⟨by simp, fun h => ?_, fun h => ?_⟩
  · have m1 : (qy - py) * (x - px) ≤ (qy - py) * (qx - px) := Int.mul_le_mul_of_nonneg_left (by omega) (by omega)
    have m2 : (qy - py) * (x - px) ≤ (qy - py) * (x + 1 - px) := Int.mul_le_mul_of_nonneg_left (by omega) (by omega)
    have m0 : 0 ≤ (qy - py) * (x - px) := Int.mul_nonneg (by omega) (by omega)
    have d1 := Int.ediv_le_ediv hD m1
    rw [Int.mul_ediv_cancel _ (show qx - px ≠ 0 by omega)] at d1
    have d2 := Int.ediv_le_ediv hD m2
    have d0 := Int.ediv_nonneg m0 (show 0 ≤ qx - px by omega)
    simp only
    omega
  · have m1 : (qy - py) * (qx - px) ≤ (qy - py) * (x - px) := Int.mul_le_mul_of_nonpos_left (by omega) (by omega)
    have m2 : (qy - py) * (x + 1 - px) ≤ (qy - py) * (x - px) := Int.mul_le_mul_of_nonpos_left (by omega) (by omega)
    have m0 : (qy - py) * (x - px) ≤ 0 := Int.mul_nonpos_of_nonpos_of_nonneg (by omega) (by omega)
    have d1 := Int.ediv_le_ediv hD m1
    rw [Int.mul_ediv_cancel _ (show qx - px ≠ 0 by omega)] at d1
    have d2 := Int.ediv_le_ediv hD m2
    have d0 := Int.ediv_le_ediv hD m0
    rw [Int.zero_ediv] at d0
    simp only
    omega
end Go.Proofs.YtajnfkmkombajaaDoor
