/-
  Proves the tied card of the law ScriptPlays: called with any values that can be read as its arguments, the Go function answers true, and nothing that was there is changed.
  The frame is the kit's proof skeleton for this row, turned to a row with listed sentinels by a program of mine (gencard).
-/
import Derived.Test.YtajnfkmkombajaaGreatDoorRows
import Derived.Test.YtajnfkmkombajaaGreatDoorCards
import Derived.Test.YtajnfkmkombajaaGreatDoorTie
import Derived.Test.YtajnfkmkombajaaGreatDoorQSP01
import Derived.Test.YtajnfkmkombajaaGreatDoorQSP41
import Derived.Test.YtajnfkmkombajaaGreatDoorQSP39
import Derived.Test.YtajnfkmkombajaaGreatDoorQSP40
import Derived.SevenTiedAt
import Derived.LaidMore
import Derived.LaidHandle
import Derived.Lay
import Derived.MakeChecks
import Derived.Stop.Joined
import Derived.WalkKit
import Derived.ProofKit
import Derived.OpenShut
import Derived.ShutString
import Derived.ChangeOld
import Derived.Below
set_option linter.unusedVariables false
set_option linter.unusedSimpArgs false
namespace Go.Proofs.YtajnfkmkombajaaGreatDoor.scriptPlays
open Go.ChangeShapes Go.WideShapes Go.ChangeAt Go.RowKit
open Go.ChangeMaps (open_string shut_string)
set_option linter.unusedVariables false

theorem text_fact : (Rows.scriptPlaysRow).wfByText (OpenSpec.ofChange Rows.scriptPlaysSpec) = true := by kernel_rfl
theorem main_fact : Tryz.pinned.checked.prog.mainIs = some (true, "9da7658b9923b478e38eb97a8ce6da5fa1404cd4053b978d8b2d462b03553994".toList) := by kernel_rfl
theorem look_fact : true = Tryz.pinned.checked.prog.looks [] := by kernel_rfl
theorem name_fact : Tryz.prog.funcNamed "bakehouse/bakehouselaw3.ScriptPlays" = some 3 := by kernel_rfl
end Go.Proofs.YtajnfkmkombajaaGreatDoor.scriptPlays
