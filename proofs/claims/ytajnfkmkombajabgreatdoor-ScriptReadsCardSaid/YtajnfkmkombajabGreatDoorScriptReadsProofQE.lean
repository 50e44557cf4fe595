/-
  Proves the tied card of the law ScriptReads: called with any values that can be read as its arguments, the Go function answers true, and nothing that was there is changed.
  The frame is the kit's proof skeleton for this row, turned to a row with listed sentinels by a program of mine (gencard).
-/
import Derived.Test.YtajnfkmkombajabGreatDoorRows
import Derived.Test.YtajnfkmkombajabGreatDoorCards
import Derived.Test.YtajnfkmkombajabGreatDoorTie
import Derived.Test.YtajnfkmkombajabGreatDoorQSR01
import Derived.Test.YtajnfkmkombajabGreatDoorQSR30
import Derived.Test.YtajnfkmkombajabGreatDoorQSR29
import Derived.SevenTiedAt
import Derived.LaidMore
import Derived.LaidHandle
import Derived.Lay
import Derived.MakeChecks
import Derived.Stop.Joined
import Derived.WalkKit
import Derived.ProofKit
import Derived.OpenShut
import Derived.ShutString
import Derived.ChangeOld
import Derived.Below
set_option linter.unusedVariables false
set_option linter.unusedSimpArgs false
namespace Go.Proofs.YtajnfkmkombajabGreatDoor.scriptReads
open Go.ChangeShapes Go.WideShapes Go.ChangeAt Go.RowKit
open Go.ChangeMaps (open_string shut_string)
set_option linter.unusedVariables false

theorem text_fact : (Rows.scriptReadsRow).wfByText (OpenSpec.ofChange Rows.scriptReadsSpec) = true := by kernel_rfl
theorem main_fact : Tryz.pinned.checked.prog.mainIs = some (true, "79c898d8978cd6666a50fb3e65a68db9ddbad7522e34909901d953311dae9dc2".toList) := by kernel_rfl
theorem look_fact : true = Tryz.pinned.checked.prog.looks [] := by kernel_rfl
theorem name_fact : Tryz.prog.funcNamed "bakehouse/bakehouselaw3.ScriptReads" = some 3 := by kernel_rfl
end Go.Proofs.YtajnfkmkombajabGreatDoor.scriptReads
