/-
  Proves the tied card of the law ScriptPlays: called with any values that can be read as its arguments, the Go function answers true, and nothing that was there is changed.
  The frame is the kit's proof skeleton for this row, turned to a row with listed sentinels by a program of mine (gencard).
-/
import Derived.Test.YtajnfkmkombajaaGreatDoorRows
import Derived.Test.YtajnfkmkombajaaGreatDoorCards
import Derived.Test.YtajnfkmkombajaaGreatDoorTie
import Derived.Test.YtajnfkmkombajaaGreatDoorQSP01
import Derived.Test.YtajnfkmkombajaaGreatDoorQSP41
import Derived.Test.YtajnfkmkombajaaGreatDoorQSP39
import Derived.Test.YtajnfkmkombajaaGreatDoorQSP40
import Derived.SevenTiedAt
import Derived.LaidMore
import Derived.LaidHandle
import Derived.Lay
import Derived.MakeChecks
import Derived.Stop.Joined
import Derived.WalkKit
import Derived.ProofKit
import Derived.OpenShut
import Derived.ShutString
import Derived.ChangeOld
import Derived.Below
import Derived.Test.YtajnfkmkombajaaGreatDoorScriptPlaysProofQA
import Derived.Test.YtajnfkmkombajaaGreatDoorScriptPlaysProofQB
set_option linter.unusedVariables false
set_option linter.unusedSimpArgs false
namespace Go.Proofs.YtajnfkmkombajaaGreatDoor.scriptPlays
open Go.ChangeShapes Go.WideShapes Go.ChangeAt Go.RowKit
open Go.ChangeMaps (open_string shut_string)
set_option linter.unusedVariables false

theorem over : Rows.scriptPlaysRow.holds Tryz.pinned (OpenSpec.ofChange Rows.scriptPlaysSpec) :=
  OpenClaim.holds_of_wide 3 Tryz.f3 rfl rfl rfl rfl rfl rfl rfl ⟨rfl, rfl, rfl, rfl, rfl⟩ rfl rfl rfl rfl rfl (by kernel_rfl) Tryz.func3 closed
    (of_decide_eq_true (by kernel_rfl)) (by unfold Func.isWrapper; first | (rw [if_pos (by decide +kernel)]; kernel_rfl) | (rw [if_neg (by decide +kernel)]; exact ⟨rfl, rfl⟩))
    (fun os started H enc _ => lifted os started H enc)
end Go.Proofs.YtajnfkmkombajaaGreatDoor.scriptPlays
