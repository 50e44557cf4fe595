/-
  Proves the tied card of the law ScriptAgain: called with any values that can be read as its arguments, the Go function answers true, and nothing that was there is changed.
  The frame is the kit's proof skeleton for this row, turned to a row with listed sentinels by a program of mine (gencard).
-/
import Derived.Test.YtajnfkmkombajacGreatDoorRows
import Derived.Test.YtajnfkmkombajacGreatDoorCards
import Derived.Test.YtajnfkmkombajacGreatDoorTie
import Derived.Test.YtajnfkmkombajacGreatDoorQSA01
import Derived.Test.YtajnfkmkombajacGreatDoorQSA32
import Derived.Test.YtajnfkmkombajacGreatDoorQSA31
import Derived.SevenTiedAt
import Derived.LaidMore
import Derived.LaidHandle
import Derived.Lay
import Derived.MakeChecks
import Derived.Stop.Joined
import Derived.WalkKit
import Derived.ProofKit
import Derived.OpenShut
import Derived.ShutString
import Derived.ChangeOld
import Derived.Below
import Derived.Test.YtajnfkmkombajacGreatDoorScriptAgainProofQC
import Derived.Test.YtajnfkmkombajacGreatDoorScriptAgainProofQD
import Derived.Test.YtajnfkmkombajacGreatDoorScriptAgainProofQE
set_option linter.unusedVariables false
set_option linter.unusedSimpArgs false
namespace Go.Proofs.YtajnfkmkombajacGreatDoor.scriptAgain
open Go.ChangeShapes Go.WideShapes Go.ChangeAt Go.RowKit
open Go.ChangeMaps (open_string shut_string)
set_option linter.unusedVariables false

/-- THE STATEMENT: the tied card -/
theorem proved : Rows.ScriptAgainCardSaid :=
  tied_goes .later [.data, .data, .data, .data, .handle, .sentinel, .sentinel, .sentinel, .sentinel, .sentinel, .sentinel, .sentinel, .sentinel, .sentinel, .sentinel, .sentinel, .sentinel, .pinned] true (true, "4d8fa97a9d67f910c9d16b5298a01b3932bbd5c75e98f18647f9409341e4c9e4") true
    over text_fact scriptAgain_row_tie rfl ⟨rfl, rfl⟩ main_fact rfl
    (fun f fn hf hfn => by
      obtain rfl : f = 12 := Option.some.inj (name_fact.symm.trans hf) |>.symm
      obtain rfl : fn = Tryz.f12 := (Option.some.inj (Tryz.func12.symm.trans hfn)).symm
      exact ⟨look_fact, fun j t ht => by
        rw [Tryz.params12] at ht
        have hm : t ∈ [41, 92, 3] := by simpa using Array.mem_of_getElem? ht
        have hall : ([41, 92, 3].all fun u => !Tryz.prog.wantsStandIn u) = true := by kernel_rfl
        exact (show Tryz.prog.wantsStandIn t = false by simpa using List.all_eq_true.1 hall t hm)⟩)
    goes_fact
#print axioms proved
end Go.Proofs.YtajnfkmkombajacGreatDoor.scriptAgain
