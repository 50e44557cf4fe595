/- The walk of IssueRates. -/
import Derived.Test.YtajnfkmkombajabDoorIssueFallsW
import Derived.Test.YtajnfkmkombajabDoorRefIssue
import Derived.Test.YtajnfkmkombajabDoorCoded2
set_option linter.unusedVariables false
set_option linter.unusedSimpArgs false
namespace Go.Proofs.YtajnfkmkombajabDoor
open Go.RowKit

theorem ratioC_le (s p : Int) : ratioC s p ≤ 10 := by unfold ratioC; split <;> decide
theorem rateC_le (s p : Int) : rateC s p ≤ 10 := by unfold rateC; split <;> decide
theorem rewardC_le (s p : Int) : rewardC s p ≤ 10 := by unfold rewardC; split <;> decide

set_option maxHeartbeats 1000000 in
theorem rates_all (A : Nat → Addr) (staked supply ratio bonus rate : Int) (w : World) (hS : Sents A w) :
    Calls Tryd.prog 10 #[.int .i64 staked, .int .i64 supply, .int .i64 ratio, .int .i64 bonus, .int .i64 rate] w fun e w' => e = .returned (.bool true) ∧ Below w.heap.size w w' := by
  have HS := Lib.hid hS; clear hS
  have m2 : (2 : Nat) ∈ [1, 2, 3, 4, 5, 6, 7, 8, 9, 10] := by decide
  have m3 : (3 : Nat) ∈ [1, 2, 3, 4, 5, 6, 7, 8, 9, 10] := by decide
  have hways : rateOk ratio bonus ∨ ¬ rateOk ratio bonus := Decidable.em _
  go_enter Tryd.func10, Tryd.ntmps10
  go_wp2_with fail
  refine (law_issued A _ _ HS.out.errs m2 m3).mono ?_
  rintro e w1 ⟨rfl, hb⟩
  have B1 := Lib.hid hb; clear hb
  go_wp2_with fail
  refine (issue_Ratio A _ staked supply _ (HS.out.below B1.out).errs m2).mono ?_
  rintro e w2 ⟨rfl, hd⟩
  have B2 := Lib.hid (btrans B1.out hd.below); clear hd
  go_wp2_with fail
  refine (ref_RatioOf staked supply _).mono ?_
  rintro e w' ⟨rfl, rfl⟩
  go_wp2_with fail
  refine (issue_Rate A _ ratio bonus _ (HS.out.below B2.out).errs m2 m3).mono ?_
  rintro e w3 ⟨rfl, hb⟩
  have B3 := Lib.hid (btrans B2.out hb); clear hb
  go_wp2_with fail
  refine (issue_Bonus A _ bonus ratio _ (HS.out.below B3.out).errs m2).mono ?_
  rintro e w4 ⟨rfl, hd⟩
  have B4 := Lib.hid (btrans B3.out hd.below); clear hd
  go_wp2_with fail
  refine (ref_RateError ratio bonus _).mono ?_
  rintro e w' ⟨rfl, rfl⟩
  have q1 : (ratioN staked supply == ratioN staked supply) = true := beq_self_eq_true _
  have q2 : (rateN ratio bonus == rateN ratio bonus) = true := beq_self_eq_true _
  have q3 : (bonusN bonus ratio == bonusN bonus ratio) = true := beq_self_eq_true _
  have q4 : (rewardN supply rate == rewardN supply rate) = true := beq_self_eq_true _
  have HC1 := Lib.hid (ratioC_le staked supply)
  have HC2 := Lib.hid (rateC_le ratio bonus)
  have HC3 := Lib.hid (rewardC_le supply rate)
  rcases hways with hr | hr
  · have hc : rateC ratio bonus = 0 := by unfold rateC; rw [if_pos hr]
    have HR := Lib.hid hr; clear hr
    rw [hc, ev_nil]
    have Hc := Lib.hid hc; clear hc
    go_wp2_with fail
    refine (ref_RateOf ratio bonus _ HR.out).mono ?_
    rintro e w5 ⟨rfl, hb⟩
    have B5 := Lib.hid (btrans B4.out hb); clear hb
    go_wp2_with fail
    refine (ref_BonusOf bonus ratio _ HR.out).mono ?_
    rintro e w' ⟨rfl, rfl⟩
    go_wp2_with fail
    refine (issue_Reward A _ supply rate _ (HS.out.below B5.out).errs m2).mono ?_
    rintro e w6 ⟨rfl, hd⟩
    have B6 := Lib.hid (btrans B5.out hd.below); clear hd
    go_wp2_with fail
    refine (ref_RewardOf supply rate _).mono ?_
    rintro e w' ⟨rfl, rfl⟩
    go_wp2_with fail
    refine (law2_coded A _ HC1.out _ (HS.out.below B6.out)).mono ?_
    rintro e w7 ⟨rfl, k⟩
    have B7 := Lib.hid (btrans B6.out k); clear k
    go_wp2_with fail
    refine (law2_coded A 0 (by decide) _ (HS.out.below B7.out)).mono ?_
    rintro e w8 ⟨rfl, k⟩
    have B8 := Lib.hid (btrans B7.out k); clear k
    go_wp2_with fail
    refine (law2_coded A 0 (by decide) _ (HS.out.below B8.out)).mono ?_
    rintro e w9 ⟨rfl, k⟩
    have B9 := Lib.hid (btrans B8.out k); clear k
    go_wp2_with fail
    refine (law2_coded A _ HC3.out _ (HS.out.below B9.out)).mono ?_
    rintro e w10 ⟨rfl, k⟩
    have B10 := Lib.hid (btrans B9.out k); clear k
    go_wp2_with fail
    go_ret
    exact ⟨by simp, B10.out⟩
  · have hc : rateC ratio bonus = 2 := by unfold rateC; rw [if_neg hr]
    have hn : rateN ratio bonus = 0 := by unfold rateN; rw [if_neg hr]
    have hbn : bonusN bonus ratio = 0 := by unfold bonusN; rw [if_neg hr]
    rw [hc, hn, hbn]
    clear hr hc hn hbn q2 q3
    go_wp2_with fail
    refine (issue_Reward A _ supply rate _ (HS.out.below B4.out).errs m2).mono ?_
    rintro e w6 ⟨rfl, hd⟩
    have B6 := Lib.hid (btrans B4.out hd.below); clear hd
    go_wp2_with fail
    refine (ref_RewardOf supply rate _).mono ?_
    rintro e w' ⟨rfl, rfl⟩
    go_wp2_with fail
    refine (law2_coded A _ HC1.out _ (HS.out.below B6.out)).mono ?_
    rintro e w7 ⟨rfl, k⟩
    have B7 := Lib.hid (btrans B6.out k); clear k
    go_wp2_with fail
    refine (law2_coded A 2 (by decide) _ (HS.out.below B7.out)).mono ?_
    rintro e w8 ⟨rfl, k⟩
    have B8 := Lib.hid (btrans B7.out k); clear k
    go_wp2_with fail
    refine (law2_coded A 2 (by decide) _ (HS.out.below B8.out)).mono ?_
    rintro e w9 ⟨rfl, k⟩
    have B9 := Lib.hid (btrans B8.out k); clear k
    go_wp2_with fail
    refine (law2_coded A _ HC3.out _ (HS.out.below B9.out)).mono ?_
    rintro e w10 ⟨rfl, k⟩
    have B10 := Lib.hid (btrans B9.out k); clear k
    go_wp2_with fail
    go_ret
    exact ⟨by simp, B10.out⟩
end Go.Proofs.YtajnfkmkombajabDoor
