/-
  Proves the tied card of the law PlayRuns: called with any values that can be read as its arguments, the Go function answers true, and nothing that was there is changed.
  The frame is the kit's proof skeleton for this row, turned to a row with listed sentinels by a program of mine (gencard).
-/
import Derived.Test.YtajnfkmkombajacGreatDoorRows
import Derived.Test.YtajnfkmkombajacGreatDoorCards
import Derived.Test.YtajnfkmkombajacGreatDoorTie
import Derived.Test.YtajnfkmkombajacGreatDoorQPA01
import Derived.Test.YtajnfkmkombajacGreatDoorQPA40
import Derived.Test.YtajnfkmkombajacGreatDoorQPA24
import Derived.SevenTiedAt
import Derived.Test.YtajnfkmkombajacGreatDoorQPA25
import Derived.LaidMore
import Derived.LaidHandle
import Derived.MakeChecks
import Derived.Stop.Joined
import Derived.WalkKit
import Derived.ProofKit
import Derived.OpenShut
import Derived.ShutString
import Derived.ChangeOld
import Derived.Below
import Derived.Test.YtajnfkmkombajacGreatDoorPlayRunsProofQC
import Derived.Test.YtajnfkmkombajacGreatDoorPlayRunsProofQD
import Derived.Test.YtajnfkmkombajacGreatDoorPlayRunsProofQE
set_option linter.unusedVariables false
set_option linter.unusedSimpArgs false
namespace Go.Proofs.YtajnfkmkombajacGreatDoor.playRuns
open Go.ChangeShapes Go.WideShapes Go.ChangeAt Go.RowKit
open Go.ChangeMaps (open_string shut_string)
set_option linter.unusedVariables false

/-- THE STATEMENT: the tied card -/
theorem proved : Rows.PlayRunsCardSaid :=
  tied_goes .later [.handle, .sentinel, .sentinel, .sentinel, .sentinel, .sentinel, .sentinel, .sentinel, .sentinel, .sentinel, .sentinel] true (true, "4d8fa97a9d67f910c9d16b5298a01b3932bbd5c75e98f18647f9409341e4c9e4") true
    over text_fact playRuns_row_tie rfl ⟨rfl, rfl⟩ main_fact rfl
    (fun f fn hf hfn => by
      obtain rfl : f = 10 := Option.some.inj (name_fact.symm.trans hf) |>.symm
      obtain rfl : fn = Tryz.f10 := (Option.some.inj (Tryz.func10.symm.trans hfn)).symm
      exact ⟨look_fact, fun j t ht => by
        rw [Tryz.params10] at ht
        have hm : t ∈ [41, 38] := by simpa using Array.mem_of_getElem? ht
        have hall : ([41, 38].all fun u => !Tryz.prog.wantsStandIn u) = true := by kernel_rfl
        exact (show Tryz.prog.wantsStandIn t = false by simpa using List.all_eq_true.1 hall t hm)⟩)
    goes_fact
#print axioms proved
end Go.Proofs.YtajnfkmkombajacGreatDoor.playRuns
