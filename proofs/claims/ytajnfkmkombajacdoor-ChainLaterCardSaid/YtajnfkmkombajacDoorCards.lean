/-
  DERIVED. GIVEN WITH THE SEED: THE CARDS: each row of YtajnfkmkombajacDoorRows.lean that lists a variable, with what it lists TIED to the program's text (the seventh form; the later family's looks); each row that meets fmt, with fmt's text TOLD by the authors' own Lean function (tested against real Go, not proved from fmt's source: count such statements apart). THE CARD IS WHAT COUNTS. Prove the row's statement (the work); the ties are given (YtajnfkmkombajacDoorTie.lean); close each card by the builder's one call (the guide's Derived/Test/ToyasCard.lean, 'card_holds'). Laid BY PROGRAM, IN A SANDBOX (cutbox-door.mjs). By AI agents, Wed Nov 11 2026. No macro, syntax, notation, axiom, sorry.
-/
import Derived.Test.YtajnfkmkombajacDoorRows
import GoSem.ClaimSeven
namespace Go.Proofs.YtajnfkmkombajacDoor
namespace Rows

/-- THE TIED CARD OF 'bakehouselaw2.StakeWaits'. -/
def stakeWaitsCard : Claim7 := { stood := { row := stakeWaitsRow, standIns := [], harness := (true, "d63cc184b471bece38a3341808cc29a86b1eb00d8776b404379a7ed1cb810fd0"), looks := true }, kinds := [], alts := [], laidByText := true, laidKinds := [.handle, .sentinel, .sentinel, .sentinel, .sentinel, .sentinel, .sentinel, .sentinel, .sentinel, .sentinel, .sentinel], laidTests := true, laidLooks := .later }
def StakeWaitsCardSaid : Prop := Claim7.holds Tryd.pinned (.plain (OpenSpec.ofChange stakeWaitsSpec)) stakeWaitsCard

/-- THE TIED CARD OF 'bakehouselaw3.ChainLater'. -/
def chainLaterCard : Claim7 := { stood := { row := chainLaterRow, standIns := [], harness := (true, "d63cc184b471bece38a3341808cc29a86b1eb00d8776b404379a7ed1cb810fd0"), looks := true }, kinds := [], alts := [], laidByText := true, laidKinds := [.sentinel, .sentinel, .sentinel, .sentinel, .sentinel, .sentinel, .sentinel, .sentinel], laidTests := true, laidLooks := .later }
def ChainLaterCardSaid : Prop := Claim7.holds Tryd.pinned (.plain (OpenSpec.ofChange chainLaterSpec)) chainLaterCard

/-- THE SECOND FORM's CARD OF 'bakehouselaw2.StakeWaits'. -/
def stakeWaitsUptoCard : Claim7 := { stood := { row := stakeWaitsUptoRow, standIns := [], harness := (true, "d63cc184b471bece38a3341808cc29a86b1eb00d8776b404379a7ed1cb810fd0"), looks := true }, kinds := [], alts := [], laidByText := true, laidKinds := [.handle, .sentinel, .sentinel, .sentinel, .sentinel, .sentinel, .sentinel, .sentinel, .sentinel, .sentinel, .sentinel], laidTests := true, laidLooks := .later }
def StakeWaitsUptoCardSaid : Prop := Claim7.holds Tryd.pinned (.plain (OpenSpec.upto stakeWaitsSpec)) stakeWaitsUptoCard

/-- THE SECOND FORM's CARD OF 'bakehouselaw3.ChainLater'. -/
def chainLaterUptoCard : Claim7 := { stood := { row := chainLaterUptoRow, standIns := [], harness := (true, "d63cc184b471bece38a3341808cc29a86b1eb00d8776b404379a7ed1cb810fd0"), looks := true }, kinds := [], alts := [], laidByText := true, laidKinds := [.sentinel, .sentinel, .sentinel, .sentinel, .sentinel, .sentinel, .sentinel, .sentinel], laidTests := true, laidLooks := .later }
def ChainLaterUptoCardSaid : Prop := Claim7.holds Tryd.pinned (.plain (OpenSpec.upto chainLaterSpec)) chainLaterUptoCard
end Rows
end Go.Proofs.YtajnfkmkombajacDoor
