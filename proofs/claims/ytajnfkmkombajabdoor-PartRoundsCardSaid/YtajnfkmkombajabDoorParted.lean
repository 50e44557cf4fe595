/- The closed fact parted. -/
import Derived.Test.YtajnfkmkombajabDoorPart
set_option linter.unusedVariables false
set_option linter.unusedSimpArgs false
namespace Go.Proofs.YtajnfkmkombajabDoor
open Go.RowKit

theorem law_parted (A : Nat → Addr) (S : List Nat) (w : World) (hE : Errs A S w) (h2 : 2 ∈ S) :
    Calls Tryd.prog 53 #[] w fun e w' => e = .returned (.bool true) ∧ Dr w w' := by
  have HE := Lib.hid hE; clear hE
  have e1 : ev A (overC 10 2 3) = .nilIface := by rw [show overC 10 2 3 = 0 from by decide]; rfl
  have e2 : ev A (upC 10 2 3) = .nilIface := by rw [show upC 10 2 3 = 0 from by decide]; rfl
  have e3 : overN 10 2 3 = 6 := by decide
  have e4 : upN 10 2 3 = 7 := by decide
  go_enter Tryd.func53, Tryd.ntmps53
  go_wp2_with (first
    | (go_at_call 54; refine (part_Down A S _ _ _ _ HE.out h2).mono ?_; rintro e w' ⟨rfl, k, hk⟩; subst hk)
    | (go_at_call 55; refine (part_Up A S _ _ _ _ (HE.out.drewN _) h2).mono ?_; rintro e w' ⟨rfl, k', hk⟩; subst hk))
  go_ret
  exact ⟨rfl, k + k', by simp [World.drewN, Nat.add_assoc]⟩

end Go.Proofs.YtajnfkmkombajabDoor
