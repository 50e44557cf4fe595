/-
  Proves the tied card of the law ChainActs: called with any values that can be read as its arguments, the Go function answers true, and nothing that was there is changed.
  The frame is the kit's proof skeleton for this row, turned to a row with listed sentinels by a program of mine (gencard).
-/
import Derived.Test.YtajnfkmkombajacGreatDoorRows
import Derived.Test.YtajnfkmkombajacGreatDoorCards
import Derived.Test.YtajnfkmkombajacGreatDoorTie
import Derived.Test.YtajnfkmkombajacGreatDoorQPA01
import Derived.Test.YtajnfkmkombajacGreatDoorQPA41
import Derived.Test.YtajnfkmkombajacGreatDoorQPA24
import Derived.SevenTiedAt
import Derived.Test.YtajnfkmkombajacGreatDoorQPA25
import Derived.LaidMore
import Derived.LaidHandle
import Derived.MakeChecks
import Derived.Stop.Joined
import Derived.WalkKit
import Derived.ProofKit
import Derived.OpenShut
import Derived.ShutString
import Derived.ChangeOld
import Derived.Below
set_option linter.unusedVariables false
set_option linter.unusedSimpArgs false
namespace Go.Proofs.YtajnfkmkombajacGreatDoor.chainActs
open Go.ChangeShapes Go.WideShapes Go.ChangeAt Go.RowKit
open Go.ChangeMaps (open_string shut_string)
set_option linter.unusedVariables false

set_option maxHeartbeats 4000000 in
theorem closed : joinedFacts Tryz.pinned.checked.prog 8 Tryz.f8 Rows.chainActsSpec Rows.chainActsRow = true := by
  simp only [joinedFacts, Bool.and_eq_true]
  repeat' apply And.intro
  all_goals (as_aux_lemma => kernel_rfl)
end Go.Proofs.YtajnfkmkombajacGreatDoor.chainActs
