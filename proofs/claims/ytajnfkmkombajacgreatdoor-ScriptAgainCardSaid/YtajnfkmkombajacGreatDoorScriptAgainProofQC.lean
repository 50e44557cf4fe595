/-
  Proves the tied card of the law ScriptAgain: called with any values that can be read as its arguments, the Go function answers true, and nothing that was there is changed.
  The frame is the kit's proof skeleton for this row, turned to a row with listed sentinels by a program of mine (gencard).
-/
import Derived.Test.YtajnfkmkombajacGreatDoorRows
import Derived.Test.YtajnfkmkombajacGreatDoorCards
import Derived.Test.YtajnfkmkombajacGreatDoorTie
import Derived.Test.YtajnfkmkombajacGreatDoorQSA01
import Derived.Test.YtajnfkmkombajacGreatDoorQSA32
import Derived.Test.YtajnfkmkombajacGreatDoorQSA31
import Derived.SevenTiedAt
import Derived.LaidMore
import Derived.LaidHandle
import Derived.Lay
import Derived.MakeChecks
import Derived.Stop.Joined
import Derived.WalkKit
import Derived.ProofKit
import Derived.OpenShut
import Derived.ShutString
import Derived.ChangeOld
import Derived.Below
import Derived.Test.YtajnfkmkombajacGreatDoorScriptAgainProofQA
import Derived.Test.YtajnfkmkombajacGreatDoorScriptAgainProofQB
set_option linter.unusedVariables false
set_option linter.unusedSimpArgs false
namespace Go.Proofs.YtajnfkmkombajacGreatDoor.scriptAgain
open Go.ChangeShapes Go.WideShapes Go.ChangeAt Go.RowKit
open Go.ChangeMaps (open_string shut_string)
set_option linter.unusedVariables false

theorem over : Rows.scriptAgainRow.holds Tryz.pinned (OpenSpec.ofChange Rows.scriptAgainSpec) :=
  OpenClaim.holds_of_wide_leaving 12 Tryz.f12 rfl rfl rfl rfl rfl rfl rfl ⟨rfl, rfl, rfl, rfl, rfl⟩ rfl rfl rfl rfl rfl (by kernel_rfl) Tryz.func12 closed
    (of_decide_eq_true (by kernel_rfl)) (by unfold Func.isWrapper; first | (rw [if_pos (by decide +kernel)]; kernel_rfl) | (rw [if_neg (by decide +kernel)]; exact ⟨rfl, rfl⟩))
    (fun os started H enc _ => handed_leaving (lifted os started H enc))
end Go.Proofs.YtajnfkmkombajacGreatDoor.scriptAgain
