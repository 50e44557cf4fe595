/-
  Proves the tied card of the law ScriptPlays: called with any values that can be read as its arguments, the Go function answers true, and nothing that was there is changed.
  The frame is the kit's proof skeleton for this row, turned to a row with listed sentinels by a program of mine (gencard).
-/
import Derived.Test.YtajnfkmkombajaaGreatDoorRows
import Derived.Test.YtajnfkmkombajaaGreatDoorCards
import Derived.Test.YtajnfkmkombajaaGreatDoorTie
import Derived.Test.YtajnfkmkombajaaGreatDoorQSP01
import Derived.Test.YtajnfkmkombajaaGreatDoorQSP41
import Derived.Test.YtajnfkmkombajaaGreatDoorQSP39
import Derived.Test.YtajnfkmkombajaaGreatDoorQSP40
import Derived.SevenTiedAt
import Derived.LaidMore
import Derived.LaidHandle
import Derived.Lay
import Derived.MakeChecks
import Derived.Stop.Joined
import Derived.WalkKit
import Derived.ProofKit
import Derived.OpenShut
import Derived.ShutString
import Derived.ChangeOld
import Derived.Below
import Derived.Test.YtajnfkmkombajaaGreatDoorScriptPlaysProofQC
import Derived.Test.YtajnfkmkombajaaGreatDoorScriptPlaysProofQD
import Derived.Test.YtajnfkmkombajaaGreatDoorScriptPlaysProofQE
set_option linter.unusedVariables false
set_option linter.unusedSimpArgs false
namespace Go.Proofs.YtajnfkmkombajaaGreatDoor.scriptPlays
open Go.ChangeShapes Go.WideShapes Go.ChangeAt Go.RowKit
open Go.ChangeMaps (open_string shut_string)
set_option linter.unusedVariables false

/-- THE STATEMENT: the tied card -/
theorem proved : Rows.ScriptPlaysCardSaid :=
  Claim7.holds_tied_plain_at .later [] [.data, .data, .data, .data, .handle, .sentinel, .sentinel, .sentinel, .sentinel, .sentinel, .sentinel, .sentinel, .sentinel, .sentinel, .sentinel, .sentinel, .sentinel, .pinned] true (true, "9da7658b9923b478e38eb97a8ce6da5fa1404cd4053b978d8b2d462b03553994") true
    over (fun _ h => by cases h) text_fact (fun _ h => by cases h) scriptPlays_row_tie rfl ⟨rfl, rfl⟩ main_fact rfl
    (fun f fn hf hfn => by
      obtain rfl : f = 3 := Option.some.inj (name_fact.symm.trans hf) |>.symm
      obtain rfl : fn = Tryz.f3 := (Option.some.inj (Tryz.func3.symm.trans hfn)).symm
      exact ⟨look_fact, fun j t ht => by
        rw [Tryz.params3] at ht
        have hm : t ∈ [22, 23] := by simpa using Array.mem_of_getElem? ht
        have hall : ([22, 23].all fun u => !Tryz.prog.wantsStandIn u) = true := by kernel_rfl
        exact (show Tryz.prog.wantsStandIn t = false by simpa using List.all_eq_true.1 hall t hm)⟩)
    goes_fact
#print axioms proved
end Go.Proofs.YtajnfkmkombajaaGreatDoor.scriptPlays
