/- The walk of PartRounds. -/
import Derived.Test.YtajnfkmkombajabDoorParted
import Derived.Test.YtajnfkmkombajabDoorRefParts
import Derived.Test.YtajnfkmkombajabDoorCoded1
import Derived.Deep.RegionWith
set_option linter.unusedVariables false
set_option linter.unusedSimpArgs false
namespace Go.Proofs.YtajnfkmkombajabDoor
open Go.RowKit

theorem overC_le (a b c : Int) : overC a b c ≤ 10 := by unfold overC; split <;> decide
theorem upC_le (a b c : Int) : upC a b c ≤ 10 := by unfold upC; split <;> decide

set_option maxHeartbeats 400000 in
theorem rounds_all (A : Nat → Addr) (a b c : Int) (w : World) (hS : Sents A w) :
    Calls Tryd.prog 7 #[.int .i64 a, .int .i64 b, .int .i64 c] w fun e w' => e = .returned (.bool true) ∧ Below w.heap.size w w' := by
  have HS := Lib.hid hS; clear hS
  have m2 : (2 : Nat) ∈ [1, 2, 3, 4, 5, 6, 7, 8, 9, 10] := by decide
  go_enter Tryd.func7, Tryd.ntmps7
  go_wp2_with fail
  refine (law_parted A _ _ HS.out.errs m2).mono ?_
  rintro e w' ⟨rfl, d0, rfl⟩
  go_wp2_with fail
  refine (part_Down A _ a b c _ (HS.out.below ((Below.refl w.heap.size w).drewN _)).errs m2).mono ?_
  rintro e w' ⟨rfl, d1, rfl⟩
  go_wp2_with fail
  refine (part_Up A _ a b c _ (HS.out.below ((Below.refl w.heap.size w).drewN _)).errs m2).mono ?_
  rintro e w' ⟨rfl, d2, rfl⟩
  go_wp2_with fail
  refine (ref_DownOf a b c _).mono ?_
  rintro e w' ⟨rfl, rfl⟩
  go_wp2_with fail
  refine (ref_UpOf a b c _).mono ?_
  rintro e w' ⟨rfl, rfl⟩
  have hn : (overN a b c == overN a b c) = true := beq_self_eq_true _
  have hm : (upN a b c == upN a b c) = true := beq_self_eq_true _
  go_wp2_with fail
  refine (law1_coded A _ (overC_le a b c) _ (HS.out.below ((Below.refl w.heap.size w).drewN _))).mono ?_
  rintro e w3 ⟨rfl, k3⟩
  have b3 := Lib.hid (btrans ((Below.refl w.heap.size w).drewN _) k3)
  clear k3
  go_wp2_with fail
  refine (law1_coded A _ (upC_le a b c) _ (HS.out.below b3.out)).mono ?_
  rintro e w4 ⟨rfl, k4⟩
  have b4 := Lib.hid (btrans b3.out k4)
  clear k4
  go_wp2_with fail
  go_ret
  exact ⟨by simp, b4.out⟩
end Go.Proofs.YtajnfkmkombajabDoor
