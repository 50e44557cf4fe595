/-
  Proves the tied card of the law ScriptReads: called with any values that can be read as its arguments, the Go function answers true, and nothing that was there is changed.
  The frame is the kit's proof skeleton for this row, turned to a row with listed sentinels by a program of mine (gencard).
-/
import Derived.Test.YtajnfkmkombajabGreatDoorRows
import Derived.Test.YtajnfkmkombajabGreatDoorCards
import Derived.Test.YtajnfkmkombajabGreatDoorTie
import Derived.Test.YtajnfkmkombajabGreatDoorQSR01
import Derived.Test.YtajnfkmkombajabGreatDoorQSR30
import Derived.Test.YtajnfkmkombajabGreatDoorQSR29
import Derived.SevenTiedAt
import Derived.LaidMore
import Derived.LaidHandle
import Derived.Lay
import Derived.MakeChecks
import Derived.Stop.Joined
import Derived.WalkKit
import Derived.ProofKit
import Derived.OpenShut
import Derived.ShutString
import Derived.ChangeOld
import Derived.Below
set_option linter.unusedVariables false
set_option linter.unusedSimpArgs false
namespace Go.Proofs.YtajnfkmkombajabGreatDoor.scriptReads
open Go.ChangeShapes Go.WideShapes Go.ChangeAt Go.RowKit
open Go.ChangeMaps (open_string shut_string)
set_option linter.unusedVariables false

theorem goes_fact : false = Rows.scriptReadsRow.goesBy Tryz.pinned.checked.prog := by kernel_rfl
end Go.Proofs.YtajnfkmkombajabGreatDoor.scriptReads
