/- Plain: the document's bonus is the same. No program in sight. -/
import Derived.Test.YtajnfkmkombajabDoorPlIssue
set_option linter.unusedVariables false
set_option linter.unusedSimpArgs false
namespace Go.Proofs.YtajnfkmkombajabDoor
open Go.RowKit

theorem bonus_doc {b r : Int} (h : rateOk r b) : bonusN b r = (if (if 520000 < r then (if r < 480000 then b + 100 else b) - 100 else (if r < 480000 then b + 100 else b)) > 5000 then 5000 else if (if 520000 < r then (if r < 480000 then b + 100 else b) - 100 else (if r < 480000 then b + 100 else b)) < 0 then 0 else (if 520000 < r then (if r < 480000 then b + 100 else b) - 100 else (if r < 480000 then b + 100 else b))) := by
  unfold bonusN; rw [if_pos h]
  obtain ⟨h1, h2, h3, h4⟩ := h
  by_cases c1 : r < 480000 <;> by_cases c2 : 520000 < r <;> simp only [c1, c2, if_true, if_false]
  · omega
  all_goals (split <;> (try split) <;> omega)
end Go.Proofs.YtajnfkmkombajabDoor
