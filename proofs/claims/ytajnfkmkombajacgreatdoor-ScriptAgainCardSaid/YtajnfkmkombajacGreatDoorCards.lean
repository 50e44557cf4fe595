/-
  DERIVED. GIVEN WITH THE SEED: THE CARDS: each row of YtajnfkmkombajacGreatDoorRows.lean that lists a variable, with what it lists TIED to the program's text (the seventh form; the later family's looks); each row that meets fmt, with fmt's text TOLD by the authors' own Lean function (tested against real Go, not proved from fmt's source: count such statements apart). THE CARD IS WHAT COUNTS. Prove the row's statement (the work); the ties are given (YtajnfkmkombajacGreatDoorTie.lean); close each card by the builder's one call (the guide's Derived/Test/ToyasCard.lean, 'card_holds'). Laid BY PROGRAM, IN A SANDBOX (cutbox-door.mjs). By AI agents, Wed Nov 11 2026. No macro, syntax, notation, axiom, sorry.
-/
import Derived.Test.YtajnfkmkombajacGreatDoorRows
import GoSem.ClaimSeven
namespace Go.Proofs.YtajnfkmkombajacGreatDoor
namespace Rows

/-- THE TIED CARD OF 'bakehouselaw2.StakeActs'. -/
def stakeActsCard : Claim7 := { stood := { row := stakeActsRow, standIns := [], harness := (true, "4d8fa97a9d67f910c9d16b5298a01b3932bbd5c75e98f18647f9409341e4c9e4"), looks := true }, kinds := [], alts := [], goes := true, laidByText := true, laidKinds := [.handle, .sentinel, .sentinel, .sentinel, .sentinel, .sentinel, .sentinel, .sentinel, .sentinel, .sentinel, .sentinel], laidTests := true, laidLooks := .later }
def StakeActsCardSaid : Prop := Claim7.holds Tryz.pinned (.plain (OpenSpec.ofChange stakeActsSpec)) stakeActsCard

/-- THE TIED CARD OF 'bakehouselaw2.RightPicture'. -/
def rightPictureCard : Claim7 := { stood := { row := rightPictureRow, standIns := [], harness := (true, "4d8fa97a9d67f910c9d16b5298a01b3932bbd5c75e98f18647f9409341e4c9e4"), looks := true }, kinds := [], alts := [], goes := true, laidByText := true, laidKinds := [.handle, .sentinel, .sentinel, .sentinel, .sentinel, .sentinel, .sentinel, .sentinel, .sentinel, .sentinel, .sentinel], laidTests := true, laidLooks := .later }
def RightPictureCardSaid : Prop := Claim7.holds Tryz.pinned (.plain (OpenSpec.ofChange rightPictureSpec)) rightPictureCard

/-- THE TIED CARD OF 'bakehouselaw3.ChainRewards'. -/
def chainRewardsCard : Claim7 := { stood := { row := chainRewardsRow, standIns := [], harness := (true, "4d8fa97a9d67f910c9d16b5298a01b3932bbd5c75e98f18647f9409341e4c9e4"), looks := true }, kinds := [], alts := [], goes := true, laidByText := true, laidKinds := [.sentinel, .sentinel, .sentinel, .sentinel, .sentinel, .sentinel, .sentinel, .sentinel, .sentinel], laidTests := true, laidLooks := .later }
def ChainRewardsCardSaid : Prop := Claim7.holds Tryz.pinned (.plain (OpenSpec.ofChange chainRewardsSpec)) chainRewardsCard

/-- THE TIED CARD OF 'bakehouselaw3.ChainSums'. -/
def chainSumsCard : Claim7 := { stood := { row := chainSumsRow, standIns := [], harness := (true, "4d8fa97a9d67f910c9d16b5298a01b3932bbd5c75e98f18647f9409341e4c9e4"), looks := true }, kinds := [], alts := [], goes := true, laidByText := true, laidKinds := [.sentinel, .sentinel, .sentinel, .sentinel, .sentinel, .sentinel, .sentinel, .sentinel, .sentinel], laidTests := true, laidLooks := .later }
def ChainSumsCardSaid : Prop := Claim7.holds Tryz.pinned (.plain (OpenSpec.ofChange chainSumsSpec)) chainSumsCard

/-- THE TIED CARD OF 'bakehouselaw3.ChainTurns'. -/
def chainTurnsCard : Claim7 := { stood := { row := chainTurnsRow, standIns := [], harness := (true, "4d8fa97a9d67f910c9d16b5298a01b3932bbd5c75e98f18647f9409341e4c9e4"), looks := true }, kinds := [], alts := [], goes := true, laidByText := true, laidKinds := [.handle, .sentinel, .sentinel, .sentinel, .sentinel, .sentinel, .sentinel, .sentinel, .sentinel, .sentinel, .sentinel], laidTests := true, laidLooks := .later }
def ChainTurnsCardSaid : Prop := Claim7.holds Tryz.pinned (.plain (OpenSpec.ofChange chainTurnsSpec)) chainTurnsCard

/-- THE TIED CARD OF 'bakehouselaw3.ChainActs'. -/
def chainActsCard : Claim7 := { stood := { row := chainActsRow, standIns := [], harness := (true, "4d8fa97a9d67f910c9d16b5298a01b3932bbd5c75e98f18647f9409341e4c9e4"), looks := true }, kinds := [], alts := [], goes := true, laidByText := true, laidKinds := [.handle, .sentinel, .sentinel, .sentinel, .sentinel, .sentinel, .sentinel, .sentinel, .sentinel, .sentinel, .sentinel], laidTests := true, laidLooks := .later }
def ChainActsCardSaid : Prop := Claim7.holds Tryz.pinned (.plain (OpenSpec.ofChange chainActsSpec)) chainActsCard

/-- THE TIED CARD OF 'bakehouselaw3.PlayAgain'. -/
def playAgainCard : Claim7 := { stood := { row := playAgainRow, standIns := [], harness := (true, "4d8fa97a9d67f910c9d16b5298a01b3932bbd5c75e98f18647f9409341e4c9e4"), looks := true }, kinds := [], alts := [], goes := true, laidByText := true, laidKinds := [.handle, .sentinel, .sentinel, .sentinel, .sentinel, .sentinel, .sentinel, .sentinel, .sentinel, .sentinel, .sentinel], laidTests := true, laidLooks := .later }
def PlayAgainCardSaid : Prop := Claim7.holds Tryz.pinned (.plain (OpenSpec.ofChange playAgainSpec)) playAgainCard

/-- THE TIED CARD OF 'bakehouselaw3.PlayRuns'. -/
def playRunsCard : Claim7 := { stood := { row := playRunsRow, standIns := [], harness := (true, "4d8fa97a9d67f910c9d16b5298a01b3932bbd5c75e98f18647f9409341e4c9e4"), looks := true }, kinds := [], alts := [], goes := true, laidByText := true, laidKinds := [.handle, .sentinel, .sentinel, .sentinel, .sentinel, .sentinel, .sentinel, .sentinel, .sentinel, .sentinel, .sentinel], laidTests := true, laidLooks := .later }
def PlayRunsCardSaid : Prop := Claim7.holds Tryz.pinned (.plain (OpenSpec.ofChange playRunsSpec)) playRunsCard

/-- THE TIED CARD OF 'bakehouselaw3.SidePlays'. -/
def sidePlaysCard : Claim7 := { stood := { row := sidePlaysRow, standIns := [], harness := (true, "4d8fa97a9d67f910c9d16b5298a01b3932bbd5c75e98f18647f9409341e4c9e4"), looks := true }, kinds := [], alts := [], goes := true, laidByText := true, laidKinds := [.handle, .sentinel, .sentinel, .sentinel, .sentinel, .sentinel, .sentinel, .sentinel, .sentinel, .sentinel, .sentinel], laidTests := true, laidLooks := .later }
def SidePlaysCardSaid : Prop := Claim7.holds Tryz.pinned (.plain (OpenSpec.ofChange sidePlaysSpec)) sidePlaysCard

/-- THE TIED CARD OF 'bakehouselaw3.ScriptAgain'. -/
def scriptAgainCard : Claim7 := { stood := { row := scriptAgainRow, standIns := [], harness := (true, "4d8fa97a9d67f910c9d16b5298a01b3932bbd5c75e98f18647f9409341e4c9e4"), looks := true }, kinds := [], alts := [], goes := true, laidByText := true, laidKinds := [.data, .data, .data, .data, .handle, .sentinel, .sentinel, .sentinel, .sentinel, .sentinel, .sentinel, .sentinel, .sentinel, .sentinel, .sentinel, .sentinel, .sentinel, .pinned], laidTests := true, laidLooks := .later }
def ScriptAgainCardSaid : Prop := Claim7.holds Tryz.pinned (.plain (OpenSpec.ofChange scriptAgainSpec)) scriptAgainCard

/-- THE SECOND FORM's CARD OF 'bakehouselaw2.StakeActs'. -/
def stakeActsUptoCard : Claim7 := { stood := { row := stakeActsUptoRow, standIns := [], harness := (true, "4d8fa97a9d67f910c9d16b5298a01b3932bbd5c75e98f18647f9409341e4c9e4"), looks := true }, kinds := [], alts := [], goes := true, laidByText := true, laidKinds := [.handle, .sentinel, .sentinel, .sentinel, .sentinel, .sentinel, .sentinel, .sentinel, .sentinel, .sentinel, .sentinel], laidTests := true, laidLooks := .later }
def StakeActsUptoCardSaid : Prop := Claim7.holds Tryz.pinned (.plain (OpenSpec.upto stakeActsSpec)) stakeActsUptoCard

/-- THE SECOND FORM's CARD OF 'bakehouselaw2.RightPicture'. -/
def rightPictureUptoCard : Claim7 := { stood := { row := rightPictureUptoRow, standIns := [], harness := (true, "4d8fa97a9d67f910c9d16b5298a01b3932bbd5c75e98f18647f9409341e4c9e4"), looks := true }, kinds := [], alts := [], goes := true, laidByText := true, laidKinds := [.handle, .sentinel, .sentinel, .sentinel, .sentinel, .sentinel, .sentinel, .sentinel, .sentinel, .sentinel, .sentinel], laidTests := true, laidLooks := .later }
def RightPictureUptoCardSaid : Prop := Claim7.holds Tryz.pinned (.plain (OpenSpec.upto rightPictureSpec)) rightPictureUptoCard

/-- THE SECOND FORM's CARD OF 'bakehouselaw3.ChainRewards'. -/
def chainRewardsUptoCard : Claim7 := { stood := { row := chainRewardsUptoRow, standIns := [], harness := (true, "4d8fa97a9d67f910c9d16b5298a01b3932bbd5c75e98f18647f9409341e4c9e4"), looks := true }, kinds := [], alts := [], goes := true, laidByText := true, laidKinds := [.sentinel, .sentinel, .sentinel, .sentinel, .sentinel, .sentinel, .sentinel, .sentinel, .sentinel], laidTests := true, laidLooks := .later }
def ChainRewardsUptoCardSaid : Prop := Claim7.holds Tryz.pinned (.plain (OpenSpec.upto chainRewardsSpec)) chainRewardsUptoCard

/-- THE SECOND FORM's CARD OF 'bakehouselaw3.ChainSums'. -/
def chainSumsUptoCard : Claim7 := { stood := { row := chainSumsUptoRow, standIns := [], harness := (true, "4d8fa97a9d67f910c9d16b5298a01b3932bbd5c75e98f18647f9409341e4c9e4"), looks := true }, kinds := [], alts := [], goes := true, laidByText := true, laidKinds := [.sentinel, .sentinel, .sentinel, .sentinel, .sentinel, .sentinel, .sentinel, .sentinel, .sentinel], laidTests := true, laidLooks := .later }
def ChainSumsUptoCardSaid : Prop := Claim7.holds Tryz.pinned (.plain (OpenSpec.upto chainSumsSpec)) chainSumsUptoCard

/-- THE SECOND FORM's CARD OF 'bakehouselaw3.ChainTurns'. -/
def chainTurnsUptoCard : Claim7 := { stood := { row := chainTurnsUptoRow, standIns := [], harness := (true, "4d8fa97a9d67f910c9d16b5298a01b3932bbd5c75e98f18647f9409341e4c9e4"), looks := true }, kinds := [], alts := [], goes := true, laidByText := true, laidKinds := [.handle, .sentinel, .sentinel, .sentinel, .sentinel, .sentinel, .sentinel, .sentinel, .sentinel, .sentinel, .sentinel], laidTests := true, laidLooks := .later }
def ChainTurnsUptoCardSaid : Prop := Claim7.holds Tryz.pinned (.plain (OpenSpec.upto chainTurnsSpec)) chainTurnsUptoCard

/-- THE SECOND FORM's CARD OF 'bakehouselaw3.ChainActs'. -/
def chainActsUptoCard : Claim7 := { stood := { row := chainActsUptoRow, standIns := [], harness := (true, "4d8fa97a9d67f910c9d16b5298a01b3932bbd5c75e98f18647f9409341e4c9e4"), looks := true }, kinds := [], alts := [], goes := true, laidByText := true, laidKinds := [.handle, .sentinel, .sentinel, .sentinel, .sentinel, .sentinel, .sentinel, .sentinel, .sentinel, .sentinel, .sentinel], laidTests := true, laidLooks := .later }
def ChainActsUptoCardSaid : Prop := Claim7.holds Tryz.pinned (.plain (OpenSpec.upto chainActsSpec)) chainActsUptoCard

/-- THE SECOND FORM's CARD OF 'bakehouselaw3.PlayAgain'. -/
def playAgainUptoCard : Claim7 := { stood := { row := playAgainUptoRow, standIns := [], harness := (true, "4d8fa97a9d67f910c9d16b5298a01b3932bbd5c75e98f18647f9409341e4c9e4"), looks := true }, kinds := [], alts := [], goes := true, laidByText := true, laidKinds := [.handle, .sentinel, .sentinel, .sentinel, .sentinel, .sentinel, .sentinel, .sentinel, .sentinel, .sentinel, .sentinel], laidTests := true, laidLooks := .later }
def PlayAgainUptoCardSaid : Prop := Claim7.holds Tryz.pinned (.plain (OpenSpec.upto playAgainSpec)) playAgainUptoCard

/-- THE SECOND FORM's CARD OF 'bakehouselaw3.PlayRuns'. -/
def playRunsUptoCard : Claim7 := { stood := { row := playRunsUptoRow, standIns := [], harness := (true, "4d8fa97a9d67f910c9d16b5298a01b3932bbd5c75e98f18647f9409341e4c9e4"), looks := true }, kinds := [], alts := [], goes := true, laidByText := true, laidKinds := [.handle, .sentinel, .sentinel, .sentinel, .sentinel, .sentinel, .sentinel, .sentinel, .sentinel, .sentinel, .sentinel], laidTests := true, laidLooks := .later }
def PlayRunsUptoCardSaid : Prop := Claim7.holds Tryz.pinned (.plain (OpenSpec.upto playRunsSpec)) playRunsUptoCard

/-- THE SECOND FORM's CARD OF 'bakehouselaw3.SidePlays'. -/
def sidePlaysUptoCard : Claim7 := { stood := { row := sidePlaysUptoRow, standIns := [], harness := (true, "4d8fa97a9d67f910c9d16b5298a01b3932bbd5c75e98f18647f9409341e4c9e4"), looks := true }, kinds := [], alts := [], goes := true, laidByText := true, laidKinds := [.handle, .sentinel, .sentinel, .sentinel, .sentinel, .sentinel, .sentinel, .sentinel, .sentinel, .sentinel, .sentinel], laidTests := true, laidLooks := .later }
def SidePlaysUptoCardSaid : Prop := Claim7.holds Tryz.pinned (.plain (OpenSpec.upto sidePlaysSpec)) sidePlaysUptoCard

/-- THE SECOND FORM's CARD OF 'bakehouselaw3.ScriptAgain'. -/
def scriptAgainUptoCard : Claim7 := { stood := { row := scriptAgainUptoRow, standIns := [], harness := (true, "4d8fa97a9d67f910c9d16b5298a01b3932bbd5c75e98f18647f9409341e4c9e4"), looks := true }, kinds := [], alts := [], goes := true, laidByText := true, laidKinds := [.data, .data, .data, .data, .handle, .sentinel, .sentinel, .sentinel, .sentinel, .sentinel, .sentinel, .sentinel, .sentinel, .sentinel, .sentinel, .sentinel, .sentinel, .pinned], laidTests := true, laidLooks := .later }
def ScriptAgainUptoCardSaid : Prop := Claim7.holds Tryz.pinned (.plain (OpenSpec.upto scriptAgainSpec)) scriptAgainUptoCard
end Rows
end Go.Proofs.YtajnfkmkombajacGreatDoor
