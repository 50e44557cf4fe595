/-
  DERIVED. GIVEN WITH THE SEED: THE CARDS: each row of YtajnfkmkombajaaDoorRows.lean that lists a variable, with what it lists TIED to the program's text (the seventh form; the later family's looks); each row that meets fmt, with fmt's text TOLD by the authors' own Lean function (tested against real Go, not proved from fmt's source: count such statements apart). THE CARD IS WHAT COUNTS. Prove the row's statement (the work); the ties are given (YtajnfkmkombajaaDoorTie.lean); close each card by the builder's one call (the guide's Derived/Test/ToyasCard.lean, 'card_holds'). Laid BY PROGRAM, IN A SANDBOX (cutbox-door.mjs). By AI agents, Wed Nov 11 2026. No macro, syntax, notation, axiom, sorry.
-/
import Derived.Test.YtajnfkmkombajaaDoorRows
import GoSem.ClaimSeven
namespace Go.Proofs.YtajnfkmkombajaaDoor
namespace Rows

/-- THE TIED CARD OF 'bakehouselaw1.PurseSums'. -/
def purseSumsCard : Claim7 := { stood := { row := purseSumsRow, standIns := [], harness := (true, "3a230b7f719272adbf6fd6e42ee4faea5b5a73796977afc33d7bcb52431af8ab"), looks := true }, kinds := [], alts := [], laidByText := true, laidKinds := [.sentinel, .sentinel], laidTests := true, laidLooks := .later }
def PurseSumsCardSaid : Prop := Claim7.holds Tryd.pinned (.plain (OpenSpec.ofChange purseSumsSpec)) purseSumsCard

/-- THE TIED CARD OF 'bakehouselaw1.DrawJust'. -/
def drawJustCard : Claim7 := { stood := { row := drawJustRow, standIns := [], harness := (true, "3a230b7f719272adbf6fd6e42ee4faea5b5a73796977afc33d7bcb52431af8ab"), looks := true }, kinds := [], alts := [], laidByText := true, laidKinds := [.sentinel, .sentinel, .sentinel], laidTests := true, laidLooks := .later }
def DrawJustCardSaid : Prop := Claim7.holds Tryd.pinned (.plain (OpenSpec.ofChange drawJustSpec)) drawJustCard

/-- THE TIED CARD OF 'bakehouselaw1.PartBack'. -/
def partBackCard : Claim7 := { stood := { row := partBackRow, standIns := [], harness := (true, "3a230b7f719272adbf6fd6e42ee4faea5b5a73796977afc33d7bcb52431af8ab"), looks := true }, kinds := [], alts := [], laidByText := true, laidKinds := [.sentinel], laidTests := true, laidLooks := .later }
def PartBackCardSaid : Prop := Claim7.holds Tryd.pinned (.plain (OpenSpec.ofChange partBackSpec)) partBackCard

/-- THE TIED CARD OF 'bakehouselaw1.PartBetween'. -/
def partBetweenCard : Claim7 := { stood := { row := partBetweenRow, standIns := [], harness := (true, "3a230b7f719272adbf6fd6e42ee4faea5b5a73796977afc33d7bcb52431af8ab"), looks := true }, kinds := [], alts := [], laidByText := true, laidKinds := [.sentinel, .sentinel], laidTests := true, laidLooks := .later }
def PartBetweenCardSaid : Prop := Claim7.holds Tryd.pinned (.plain (OpenSpec.ofChange partBetweenSpec)) partBetweenCard

/-- THE TIED CARD OF 'bakehouselaw2.RightOnly'. -/
def rightOnlyCard : Claim7 := { stood := { row := rightOnlyRow, standIns := [], harness := (true, "3a230b7f719272adbf6fd6e42ee4faea5b5a73796977afc33d7bcb52431af8ab"), looks := true }, kinds := [], alts := [], laidByText := true, laidKinds := [.sentinel, .sentinel, .sentinel], laidTests := true, laidLooks := .later }
def RightOnlyCardSaid : Prop := Claim7.holds Tryd.pinned (.plain (OpenSpec.ofChange rightOnlySpec)) rightOnlyCard

/-- THE TIED CARD OF 'bakehouselaw2.IssueFalls'. -/
def issueFallsCard : Claim7 := { stood := { row := issueFallsRow, standIns := [], harness := (true, "3a230b7f719272adbf6fd6e42ee4faea5b5a73796977afc33d7bcb52431af8ab"), looks := true }, kinds := [], alts := [], laidByText := true, laidKinds := [.sentinel, .sentinel], laidTests := true, laidLooks := .later }
def IssueFallsCardSaid : Prop := Claim7.holds Tryd.pinned (.plain (OpenSpec.ofChange issueFallsSpec)) issueFallsCard

/-- THE TIED CARD OF 'bakehouselaw1.PoolAlone'. -/
def poolAloneCard : Claim7 := { stood := { row := poolAloneRow, standIns := [], harness := (true, "3a230b7f719272adbf6fd6e42ee4faea5b5a73796977afc33d7bcb52431af8ab"), looks := true }, kinds := [], alts := [], laidByText := true, laidKinds := [.sentinel, .sentinel, .sentinel, .sentinel], laidTests := true, laidLooks := .later }
def PoolAloneCardSaid : Prop := Claim7.holds Tryd.pinned (.plain (OpenSpec.ofChange poolAloneSpec)) poolAloneCard

/-- THE TIED CARD OF 'bakehouselaw1.Names'. -/
def namesCard : Claim7 := { stood := { row := namesRow, standIns := [], harness := (true, "3a230b7f719272adbf6fd6e42ee4faea5b5a73796977afc33d7bcb52431af8ab"), looks := true }, kinds := [], alts := [], laidByText := true, laidKinds := [.handle, .sentinel, .sentinel, .sentinel, .sentinel, .sentinel, .sentinel, .sentinel, .sentinel, .sentinel, .sentinel], laidTests := true, laidLooks := .later }
def NamesCardSaid : Prop := Claim7.holds Tryd.pinned (.plain (OpenSpec.ofChange namesSpec)) namesCard

/-- THE TIED CARD OF 'bakehouselaw1.LotsNext'. -/
def lotsNextCard : Claim7 := { stood := { row := lotsNextRow, standIns := [], harness := (true, "3a230b7f719272adbf6fd6e42ee4faea5b5a73796977afc33d7bcb52431af8ab"), looks := true }, kinds := [], alts := [], laidByText := true, laidKinds := [.handle, .sentinel, .sentinel, .sentinel, .sentinel, .sentinel, .sentinel, .sentinel, .sentinel, .sentinel, .sentinel], laidTests := true, laidLooks := .later }
def LotsNextCardSaid : Prop := Claim7.holds Tryd.pinned (.plain (OpenSpec.ofChange lotsNextSpec)) lotsNextCard

/-- THE TIED CARD OF 'bakehouselaw1.PoolFair'. -/
def poolFairCard : Claim7 := { stood := { row := poolFairRow, standIns := [], harness := (true, "3a230b7f719272adbf6fd6e42ee4faea5b5a73796977afc33d7bcb52431af8ab"), looks := true }, kinds := [], alts := [], laidByText := true, laidKinds := [.sentinel, .sentinel, .sentinel, .sentinel, .sentinel], laidTests := true, laidLooks := .later }
def PoolFairCardSaid : Prop := Claim7.holds Tryd.pinned (.plain (OpenSpec.ofChange poolFairSpec)) poolFairCard

/-- THE SECOND FORM's CARD OF 'bakehouselaw1.PurseSums'. -/
def purseSumsUptoCard : Claim7 := { stood := { row := purseSumsUptoRow, standIns := [], harness := (true, "3a230b7f719272adbf6fd6e42ee4faea5b5a73796977afc33d7bcb52431af8ab"), looks := true }, kinds := [], alts := [], laidByText := true, laidKinds := [.sentinel, .sentinel], laidTests := true, laidLooks := .later }
def PurseSumsUptoCardSaid : Prop := Claim7.holds Tryd.pinned (.plain (OpenSpec.upto purseSumsSpec)) purseSumsUptoCard

/-- THE SECOND FORM's CARD OF 'bakehouselaw1.DrawJust'. -/
def drawJustUptoCard : Claim7 := { stood := { row := drawJustUptoRow, standIns := [], harness := (true, "3a230b7f719272adbf6fd6e42ee4faea5b5a73796977afc33d7bcb52431af8ab"), looks := true }, kinds := [], alts := [], laidByText := true, laidKinds := [.sentinel, .sentinel, .sentinel], laidTests := true, laidLooks := .later }
def DrawJustUptoCardSaid : Prop := Claim7.holds Tryd.pinned (.plain (OpenSpec.upto drawJustSpec)) drawJustUptoCard

/-- THE SECOND FORM's CARD OF 'bakehouselaw1.PartBack'. -/
def partBackUptoCard : Claim7 := { stood := { row := partBackUptoRow, standIns := [], harness := (true, "3a230b7f719272adbf6fd6e42ee4faea5b5a73796977afc33d7bcb52431af8ab"), looks := true }, kinds := [], alts := [], laidByText := true, laidKinds := [.sentinel], laidTests := true, laidLooks := .later }
def PartBackUptoCardSaid : Prop := Claim7.holds Tryd.pinned (.plain (OpenSpec.upto partBackSpec)) partBackUptoCard

/-- THE SECOND FORM's CARD OF 'bakehouselaw1.PartBetween'. -/
def partBetweenUptoCard : Claim7 := { stood := { row := partBetweenUptoRow, standIns := [], harness := (true, "3a230b7f719272adbf6fd6e42ee4faea5b5a73796977afc33d7bcb52431af8ab"), looks := true }, kinds := [], alts := [], laidByText := true, laidKinds := [.sentinel, .sentinel], laidTests := true, laidLooks := .later }
def PartBetweenUptoCardSaid : Prop := Claim7.holds Tryd.pinned (.plain (OpenSpec.upto partBetweenSpec)) partBetweenUptoCard

/-- THE SECOND FORM's CARD OF 'bakehouselaw2.RightOnly'. -/
def rightOnlyUptoCard : Claim7 := { stood := { row := rightOnlyUptoRow, standIns := [], harness := (true, "3a230b7f719272adbf6fd6e42ee4faea5b5a73796977afc33d7bcb52431af8ab"), looks := true }, kinds := [], alts := [], laidByText := true, laidKinds := [.sentinel, .sentinel, .sentinel], laidTests := true, laidLooks := .later }
def RightOnlyUptoCardSaid : Prop := Claim7.holds Tryd.pinned (.plain (OpenSpec.upto rightOnlySpec)) rightOnlyUptoCard

/-- THE SECOND FORM's CARD OF 'bakehouselaw2.IssueFalls'. -/
def issueFallsUptoCard : Claim7 := { stood := { row := issueFallsUptoRow, standIns := [], harness := (true, "3a230b7f719272adbf6fd6e42ee4faea5b5a73796977afc33d7bcb52431af8ab"), looks := true }, kinds := [], alts := [], laidByText := true, laidKinds := [.sentinel, .sentinel], laidTests := true, laidLooks := .later }
def IssueFallsUptoCardSaid : Prop := Claim7.holds Tryd.pinned (.plain (OpenSpec.upto issueFallsSpec)) issueFallsUptoCard

/-- THE SECOND FORM's CARD OF 'bakehouselaw1.PoolAlone'. -/
def poolAloneUptoCard : Claim7 := { stood := { row := poolAloneUptoRow, standIns := [], harness := (true, "3a230b7f719272adbf6fd6e42ee4faea5b5a73796977afc33d7bcb52431af8ab"), looks := true }, kinds := [], alts := [], laidByText := true, laidKinds := [.sentinel, .sentinel, .sentinel, .sentinel], laidTests := true, laidLooks := .later }
def PoolAloneUptoCardSaid : Prop := Claim7.holds Tryd.pinned (.plain (OpenSpec.upto poolAloneSpec)) poolAloneUptoCard

/-- THE SECOND FORM's CARD OF 'bakehouselaw1.Names'. -/
def namesUptoCard : Claim7 := { stood := { row := namesUptoRow, standIns := [], harness := (true, "3a230b7f719272adbf6fd6e42ee4faea5b5a73796977afc33d7bcb52431af8ab"), looks := true }, kinds := [], alts := [], laidByText := true, laidKinds := [.handle, .sentinel, .sentinel, .sentinel, .sentinel, .sentinel, .sentinel, .sentinel, .sentinel, .sentinel, .sentinel], laidTests := true, laidLooks := .later }
def NamesUptoCardSaid : Prop := Claim7.holds Tryd.pinned (.plain (OpenSpec.upto namesSpec)) namesUptoCard

/-- THE SECOND FORM's CARD OF 'bakehouselaw1.LotsNext'. -/
def lotsNextUptoCard : Claim7 := { stood := { row := lotsNextUptoRow, standIns := [], harness := (true, "3a230b7f719272adbf6fd6e42ee4faea5b5a73796977afc33d7bcb52431af8ab"), looks := true }, kinds := [], alts := [], laidByText := true, laidKinds := [.handle, .sentinel, .sentinel, .sentinel, .sentinel, .sentinel, .sentinel, .sentinel, .sentinel, .sentinel, .sentinel], laidTests := true, laidLooks := .later }
def LotsNextUptoCardSaid : Prop := Claim7.holds Tryd.pinned (.plain (OpenSpec.upto lotsNextSpec)) lotsNextUptoCard

/-- THE SECOND FORM's CARD OF 'bakehouselaw1.PoolFair'. -/
def poolFairUptoCard : Claim7 := { stood := { row := poolFairUptoRow, standIns := [], harness := (true, "3a230b7f719272adbf6fd6e42ee4faea5b5a73796977afc33d7bcb52431af8ab"), looks := true }, kinds := [], alts := [], laidByText := true, laidKinds := [.sentinel, .sentinel, .sentinel, .sentinel, .sentinel], laidTests := true, laidLooks := .later }
def PoolFairUptoCardSaid : Prop := Claim7.holds Tryd.pinned (.plain (OpenSpec.upto poolFairSpec)) poolFairUptoCard
end Rows
end Go.Proofs.YtajnfkmkombajaaDoor
