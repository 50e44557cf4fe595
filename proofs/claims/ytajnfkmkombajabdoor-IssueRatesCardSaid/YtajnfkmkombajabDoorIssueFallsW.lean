/- The walk of IssueFalls. -/
import Derived.Test.YtajnfkmkombajabDoorIssue
import Derived.Deep.RegionWith
set_option linter.unusedVariables false
set_option linter.unusedSimpArgs false
namespace Go.Proofs.YtajnfkmkombajabDoor
open Go.RowKit

theorem rate_half : rateN 500000 100 = 10100 := by decide
theorem ratio_half : ratioN 5 10 = 500000 := by decide

theorem law_issued (A : Nat → Addr) (S : List Nat) (w : World) (hE : Errs A S w) (h2 : 2 ∈ S) (h3 : 3 ∈ S) :
    Calls Tryd.prog 68 #[] w fun e w' => e = .returned (.bool true) ∧ Below w.heap.size w w' := by
  have HE := Lib.hid hE; clear hE
  have e1 : ev A (ratioC 5 10) = .nilIface := by rw [show ratioC 5 10 = 0 from by decide]; rfl
  have e2 : ev A (rateC 500000 100) = .nilIface := by rw [show rateC 500000 100 = 0 from by decide]; rfl
  have e3 := ratio_half
  have e4 := rate_half
  go_enter Tryd.func68, Tryd.ntmps68
  go_wp2_with (first
    | (go_at_call 69; refine (issue_Ratio A S _ _ _ HE.out h2).mono ?_; rintro e w' ⟨rfl, k, hk⟩; subst hk)
    | (go_at_call 71; refine (issue_Rate A S _ _ _ (HE.out.drewN _) h2 h3).mono ?_; rintro e w' ⟨rfl, hb⟩))
  go_ret
  exact ⟨rfl, btrans (Dr.below ⟨k, rfl⟩) hb⟩

/-- all that the law asks, of right amounts -/
structure Falls (s l m b : Int) : Prop where
  c1 : ratioC l s = 0
  c2 : ratioC m s = 0
  le : ratioN l s ≤ ratioN m s
  top : ratioN m s ≤ 1000000
  r1 : rateC (ratioN l s) b = 0
  r2 : rateC (ratioN m s) b = 0
  fall : rateN (ratioN m s) b ≤ rateN (ratioN l s) b
  lo : 5000 ≤ rateN (ratioN m s) b
  hi : rateN (ratioN l s) b ≤ 45000
  bf : bonusN b (ratioN m s) ≤ bonusN b (ratioN l s)
  bh : bonusN b (ratioN l s) ≤ 5000
  bl : 0 ≤ bonusN b (ratioN m s)
  rw : rewardC s (rateN (ratioN l s) b) = 0
  n0 : 0 ≤ rewardN s (rateN (ratioN l s) b)
  n1 : rewardN s (rateN (ratioN l s) b) ≤ 1125899906842624
  n2 : rewardN s (rateN (ratioN l s) b) * 4 ≤ s / 20
theorem falls {s l m b : Int} (h1 : 1 ≤ s) (h2 : s ≤ 1125899906842624) (h3 : 0 ≤ b) (h4 : b ≤ 5000) (h5 : 0 ≤ l) (h6 : l ≤ m) (h7 : m ≤ s) : Falls s l m b := by
  have k1 : ratioOk l s := ⟨h5, by omega, h1, h2⟩
  have k2 : ratioOk m s := ⟨by omega, h7, h1, h2⟩
  obtain ⟨a0, a1⟩ := ratio_in k1
  obtain ⟨b0, b1⟩ := ratio_in k2
  have hr := ratio_rises k1 k2 h6
  have c1 : ratioC l s = 0 := if_pos k1
  have c2 : ratioC m s = 0 := if_pos k2
  have o1 : rateOk (ratioN l s) b := ⟨a0, a1, h3, h4⟩
  have o2 : rateOk (ratioN m s) b := ⟨b0, b1, h3, h4⟩
  have e1 : rateN (ratioN l s) b = bendV rateL (ratioN l s) + b := if_pos o1
  have e2 : rateN (ratioN m s) b = bendV rateL (ratioN m s) + b := if_pos o2
  have d1 := rateL_bounds a0 a1
  have d2 := rateL_bounds b0 b1
  have d3 := rateL_falls a0 hr b1
  have g1 : bonusN b (ratioN l s) = if ratioN l s < 480000 then min 5000 (b + 100) else if 520000 < ratioN l s then max 0 (b - 100) else b := if_pos o1
  have g2 : bonusN b (ratioN m s) = if ratioN m s < 480000 then min 5000 (b + 100) else if 520000 < ratioN m s then max 0 (b - 100) else b := if_pos o2
  have bb : bonusN b (ratioN m s) ≤ bonusN b (ratioN l s) ∧ bonusN b (ratioN l s) ≤ 5000 ∧ 0 ≤ bonusN b (ratioN m s) := by
    rw [g1, g2]
    split <;> split <;> (try split) <;> (try split) <;> omega
  have k3 : rewardOk s (rateN (ratioN l s) b) := ⟨⟨by omega, h2⟩, by omega, by omega⟩
  have n := reward_in k3
  have e3 : rewardN s (rateN (ratioN l s) b) = s * rateN (ratioN l s) b / 1000000 / 4 := if_pos k3
  have hle : s * rateN (ratioN l s) b ≤ s * 45000 := Int.mul_le_mul_of_nonneg_left (by omega) (by omega)
  have e4 : rewardC s (rateN (ratioN l s) b) = 0 := if_pos k3
  exact ⟨c1, c2, hr, b1, if_pos o1, if_pos o2, by omega, by omega, by omega, bb.1, bb.2.1, bb.2.2, e4, n.1, by omega, by omega⟩

end Go.Proofs.YtajnfkmkombajabDoor
