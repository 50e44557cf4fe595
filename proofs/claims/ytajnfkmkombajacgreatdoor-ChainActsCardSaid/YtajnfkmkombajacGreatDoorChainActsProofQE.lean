/-
  Proves the tied card of the law ChainActs: called with any values that can be read as its arguments, the Go function answers true, and nothing that was there is changed.
  The frame is the kit's proof skeleton for this row, turned to a row with listed sentinels by a program of mine (gencard).
-/
import Derived.Test.YtajnfkmkombajacGreatDoorRows
import Derived.Test.YtajnfkmkombajacGreatDoorCards
import Derived.Test.YtajnfkmkombajacGreatDoorTie
import Derived.Test.YtajnfkmkombajacGreatDoorQPA01
import Derived.Test.YtajnfkmkombajacGreatDoorQPA41
import Derived.Test.YtajnfkmkombajacGreatDoorQPA24
import Derived.SevenTiedAt
import Derived.Test.YtajnfkmkombajacGreatDoorQPA25
import Derived.LaidMore
import Derived.LaidHandle
import Derived.MakeChecks
import Derived.Stop.Joined
import Derived.WalkKit
import Derived.ProofKit
import Derived.OpenShut
import Derived.ShutString
import Derived.ChangeOld
import Derived.Below
set_option linter.unusedVariables false
set_option linter.unusedSimpArgs false
namespace Go.Proofs.YtajnfkmkombajacGreatDoor.chainActs
open Go.ChangeShapes Go.WideShapes Go.ChangeAt Go.RowKit
open Go.ChangeMaps (open_string shut_string)
set_option linter.unusedVariables false

theorem text_fact : (Rows.chainActsRow).wfByText (OpenSpec.ofChange Rows.chainActsSpec) = true := by kernel_rfl
theorem main_fact : Tryz.pinned.checked.prog.mainIs = some (true, "4d8fa97a9d67f910c9d16b5298a01b3932bbd5c75e98f18647f9409341e4c9e4".toList) := by kernel_rfl
theorem look_fact : true = Tryz.pinned.checked.prog.looks [] := by kernel_rfl
theorem name_fact : Tryz.prog.funcNamed "bakehouse/bakehouselaw3.ChainActs" = some 8 := by kernel_rfl
end Go.Proofs.YtajnfkmkombajacGreatDoor.chainActs
