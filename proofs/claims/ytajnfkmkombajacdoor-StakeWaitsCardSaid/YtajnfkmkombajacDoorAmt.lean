/- Contract of package part's Amount. -/
import Derived.Test.YtajnfkmkombajacDoorErr
import Derived.Test.YtajnfkmkombajacDoorPlPart
set_option linter.unusedVariables false
set_option linter.unusedSimpArgs false
namespace Go.Proofs.YtajnfkmkombajacDoor
open Go.RowKit

theorem part_Amount (n : Int) (w : World) : Calls Tryd.prog 49 #[.int .i64 n] w fun e w' => e = .returned (.bool (amtB n)) ∧ w = w' := by
  by_cases h : 0 ≤ n ∧ n ≤ 1125899906842624
  · obtain ⟨h0, h1⟩ := h
    have H := Lib.hid (amtB_iff.2 ⟨h0, h1⟩)
    go_enter Tryd.func49, Tryd.ntmps49
    go_wp2
    go_ret
    exact ⟨by rw [H.out]; rfl, rfl⟩
  · have H := Lib.hid (amtB_false.2 h)
    rcases Int.lt_or_le n 0 with h0 | h0
    · clear h
      go_enter Tryd.func49, Tryd.ntmps49
      go_wp2
      go_ret
      exact ⟨by rw [H.out]; rfl, rfl⟩
    · have hd : decide (n ≤ 1125899906842624) = false := by simp; omega
      clear h
      go_enter Tryd.func49, Tryd.ntmps49
      go_wp2
      go_ret
      exact ⟨by rw [H.out]; rfl, rfl⟩

end Go.Proofs.YtajnfkmkombajacDoor
