/-
  DERIVED. GIVEN WITH THE SEED: THE CARDS: each row of YtajnfkmkombajabDoorRows.lean that lists a variable, with what it lists TIED to the program's text (the seventh form; the later family's looks); each row that meets fmt, with fmt's text TOLD by the authors' own Lean function (tested against real Go, not proved from fmt's source: count such statements apart). THE CARD IS WHAT COUNTS. Prove the row's statement (the work); the ties are given (YtajnfkmkombajabDoorTie.lean); close each card by the builder's one call (the guide's Derived/Test/ToyasCard.lean, 'card_holds'). Laid BY PROGRAM, IN A SANDBOX (cutbox-door.mjs). By AI agents, Wed Nov 11 2026. No macro, syntax, notation, axiom, sorry.
-/
import Derived.Test.YtajnfkmkombajabDoorRows
import GoSem.ClaimSeven
namespace Go.Proofs.YtajnfkmkombajabDoor
namespace Rows

/-- THE TIED CARD OF 'bakehouselaw2.CourtOnce'. -/
def courtOnceCard : Claim7 := { stood := { row := courtOnceRow, standIns := [], harness := (true, "e40b30648ec620a38de08df93557e75a4730b86b5be458d8507ee0f484e708a2"), looks := true }, kinds := [], alts := [], goes := true, laidByText := true, laidKinds := [.handle, .sentinel, .sentinel, .sentinel, .sentinel, .sentinel, .sentinel, .sentinel, .sentinel, .sentinel, .sentinel], laidTests := true, laidLooks := .later }
def CourtOnceCardSaid : Prop := Claim7.holds Tryd.pinned (.plain (OpenSpec.ofChange courtOnceSpec)) courtOnceCard

/-- THE TIED CARD OF 'bakehouselaw2.CourtCases'. -/
def courtCasesCard : Claim7 := { stood := { row := courtCasesRow, standIns := [], harness := (true, "e40b30648ec620a38de08df93557e75a4730b86b5be458d8507ee0f484e708a2"), looks := true }, kinds := [], alts := [], goes := true, laidByText := true, laidKinds := [.handle, .sentinel, .sentinel, .sentinel, .sentinel, .sentinel, .sentinel, .sentinel, .sentinel, .sentinel, .sentinel], laidTests := true, laidLooks := .later }
def CourtCasesCardSaid : Prop := Claim7.holds Tryd.pinned (.plain (OpenSpec.ofChange courtCasesSpec)) courtCasesCard

/-- THE TIED CARD OF 'bakehouselaw1.PurseActs'. -/
def purseActsCard : Claim7 := { stood := { row := purseActsRow, standIns := [], harness := (true, "e40b30648ec620a38de08df93557e75a4730b86b5be458d8507ee0f484e708a2"), looks := true }, kinds := [], alts := [], goes := true, laidByText := true, laidKinds := [.handle, .sentinel, .sentinel, .sentinel, .sentinel, .sentinel, .sentinel, .sentinel, .sentinel, .sentinel, .sentinel], laidTests := true, laidLooks := .later }
def PurseActsCardSaid : Prop := Claim7.holds Tryd.pinned (.plain (OpenSpec.ofChange purseActsSpec)) purseActsCard

/-- THE TIED CARD OF 'bakehouselaw1.DrawColumns'. -/
def drawColumnsCard : Claim7 := { stood := { row := drawColumnsRow, standIns := [], harness := (true, "e40b30648ec620a38de08df93557e75a4730b86b5be458d8507ee0f484e708a2"), looks := true }, kinds := [], alts := [], goes := true, laidByText := true, laidKinds := [.handle, .sentinel, .sentinel, .sentinel, .sentinel, .sentinel, .sentinel, .sentinel, .sentinel, .sentinel, .sentinel], laidTests := true, laidLooks := .later }
def DrawColumnsCardSaid : Prop := Claim7.holds Tryd.pinned (.plain (OpenSpec.ofChange drawColumnsSpec)) drawColumnsCard

/-- THE TIED CARD OF 'bakehouselaw1.PartRounds'. -/
def partRoundsCard : Claim7 := { stood := { row := partRoundsRow, standIns := [], harness := (true, "e40b30648ec620a38de08df93557e75a4730b86b5be458d8507ee0f484e708a2"), looks := true }, kinds := [], alts := [], goes := true, laidByText := true, laidKinds := [.handle, .sentinel, .sentinel, .sentinel, .sentinel, .sentinel, .sentinel, .sentinel, .sentinel, .sentinel, .sentinel], laidTests := true, laidLooks := .later }
def PartRoundsCardSaid : Prop := Claim7.holds Tryd.pinned (.plain (OpenSpec.ofChange partRoundsSpec)) partRoundsCard

/-- THE TIED CARD OF 'bakehouselaw1.PartBends'. -/
def partBendsCard : Claim7 := { stood := { row := partBendsRow, standIns := [], harness := (true, "e40b30648ec620a38de08df93557e75a4730b86b5be458d8507ee0f484e708a2"), looks := true }, kinds := [], alts := [], goes := true, laidByText := true, laidKinds := [.handle, .sentinel, .sentinel, .sentinel, .sentinel, .sentinel, .sentinel, .sentinel, .sentinel, .sentinel, .sentinel], laidTests := true, laidLooks := .later }
def PartBendsCardSaid : Prop := Claim7.holds Tryd.pinned (.plain (OpenSpec.ofChange partBendsSpec)) partBendsCard

/-- THE TIED CARD OF 'bakehouselaw2.RightBakers'. -/
def rightBakersCard : Claim7 := { stood := { row := rightBakersRow, standIns := [], harness := (true, "e40b30648ec620a38de08df93557e75a4730b86b5be458d8507ee0f484e708a2"), looks := true }, kinds := [], alts := [], goes := true, laidByText := true, laidKinds := [.handle, .sentinel, .sentinel, .sentinel, .sentinel, .sentinel, .sentinel, .sentinel, .sentinel, .sentinel, .sentinel], laidTests := true, laidLooks := .later }
def RightBakersCardSaid : Prop := Claim7.holds Tryd.pinned (.plain (OpenSpec.ofChange rightBakersSpec)) rightBakersCard

/-- THE TIED CARD OF 'bakehouselaw2.IssueRates'. -/
def issueRatesCard : Claim7 := { stood := { row := issueRatesRow, standIns := [], harness := (true, "e40b30648ec620a38de08df93557e75a4730b86b5be458d8507ee0f484e708a2"), looks := true }, kinds := [], alts := [], goes := true, laidByText := true, laidKinds := [.handle, .sentinel, .sentinel, .sentinel, .sentinel, .sentinel, .sentinel, .sentinel, .sentinel, .sentinel, .sentinel], laidTests := true, laidLooks := .later }
def IssueRatesCardSaid : Prop := Claim7.holds Tryd.pinned (.plain (OpenSpec.ofChange issueRatesSpec)) issueRatesCard

/-- THE TIED CARD OF 'bakehouselaw1.PoolActs'. -/
def poolActsCard : Claim7 := { stood := { row := poolActsRow, standIns := [], harness := (true, "e40b30648ec620a38de08df93557e75a4730b86b5be458d8507ee0f484e708a2"), looks := true }, kinds := [], alts := [], goes := true, laidByText := true, laidKinds := [.handle, .sentinel, .sentinel, .sentinel, .sentinel, .sentinel, .sentinel, .sentinel, .sentinel, .sentinel, .sentinel], laidTests := true, laidLooks := .later }
def PoolActsCardSaid : Prop := Claim7.holds Tryd.pinned (.plain (OpenSpec.ofChange poolActsSpec)) poolActsCard

/-- THE TIED CARD OF 'bakehouselaw3.SideRights'. -/
def sideRightsCard : Claim7 := { stood := { row := sideRightsRow, standIns := [], harness := (true, "e40b30648ec620a38de08df93557e75a4730b86b5be458d8507ee0f484e708a2"), looks := true }, kinds := [], alts := [], goes := true, laidByText := true, laidKinds := [.handle, .sentinel, .sentinel, .sentinel, .sentinel, .sentinel, .sentinel, .sentinel, .sentinel, .sentinel, .sentinel], laidTests := true, laidLooks := .later }
def SideRightsCardSaid : Prop := Claim7.holds Tryd.pinned (.plain (OpenSpec.ofChange sideRightsSpec)) sideRightsCard

/-- THE TIED CARD OF 'bakehouselaw2.StakeSums'. -/
def stakeSumsCard : Claim7 := { stood := { row := stakeSumsRow, standIns := [], harness := (true, "e40b30648ec620a38de08df93557e75a4730b86b5be458d8507ee0f484e708a2"), looks := true }, kinds := [], alts := [], laidByText := true, laidKinds := [.sentinel, .sentinel, .sentinel, .sentinel, .sentinel, .sentinel], laidTests := true, laidLooks := .later }
def StakeSumsCardSaid : Prop := Claim7.holds Tryd.pinned (.plain (OpenSpec.ofChange stakeSumsSpec)) stakeSumsCard

/-- THE SECOND FORM's CARD OF 'bakehouselaw2.CourtOnce'. -/
def courtOnceUptoCard : Claim7 := { stood := { row := courtOnceUptoRow, standIns := [], harness := (true, "e40b30648ec620a38de08df93557e75a4730b86b5be458d8507ee0f484e708a2"), looks := true }, kinds := [], alts := [], goes := true, laidByText := true, laidKinds := [.handle, .sentinel, .sentinel, .sentinel, .sentinel, .sentinel, .sentinel, .sentinel, .sentinel, .sentinel, .sentinel], laidTests := true, laidLooks := .later }
def CourtOnceUptoCardSaid : Prop := Claim7.holds Tryd.pinned (.plain (OpenSpec.upto courtOnceSpec)) courtOnceUptoCard

/-- THE SECOND FORM's CARD OF 'bakehouselaw2.CourtCases'. -/
def courtCasesUptoCard : Claim7 := { stood := { row := courtCasesUptoRow, standIns := [], harness := (true, "e40b30648ec620a38de08df93557e75a4730b86b5be458d8507ee0f484e708a2"), looks := true }, kinds := [], alts := [], goes := true, laidByText := true, laidKinds := [.handle, .sentinel, .sentinel, .sentinel, .sentinel, .sentinel, .sentinel, .sentinel, .sentinel, .sentinel, .sentinel], laidTests := true, laidLooks := .later }
def CourtCasesUptoCardSaid : Prop := Claim7.holds Tryd.pinned (.plain (OpenSpec.upto courtCasesSpec)) courtCasesUptoCard

/-- THE SECOND FORM's CARD OF 'bakehouselaw1.PurseActs'. -/
def purseActsUptoCard : Claim7 := { stood := { row := purseActsUptoRow, standIns := [], harness := (true, "e40b30648ec620a38de08df93557e75a4730b86b5be458d8507ee0f484e708a2"), looks := true }, kinds := [], alts := [], goes := true, laidByText := true, laidKinds := [.handle, .sentinel, .sentinel, .sentinel, .sentinel, .sentinel, .sentinel, .sentinel, .sentinel, .sentinel, .sentinel], laidTests := true, laidLooks := .later }
def PurseActsUptoCardSaid : Prop := Claim7.holds Tryd.pinned (.plain (OpenSpec.upto purseActsSpec)) purseActsUptoCard

/-- THE SECOND FORM's CARD OF 'bakehouselaw1.DrawColumns'. -/
def drawColumnsUptoCard : Claim7 := { stood := { row := drawColumnsUptoRow, standIns := [], harness := (true, "e40b30648ec620a38de08df93557e75a4730b86b5be458d8507ee0f484e708a2"), looks := true }, kinds := [], alts := [], goes := true, laidByText := true, laidKinds := [.handle, .sentinel, .sentinel, .sentinel, .sentinel, .sentinel, .sentinel, .sentinel, .sentinel, .sentinel, .sentinel], laidTests := true, laidLooks := .later }
def DrawColumnsUptoCardSaid : Prop := Claim7.holds Tryd.pinned (.plain (OpenSpec.upto drawColumnsSpec)) drawColumnsUptoCard

/-- THE SECOND FORM's CARD OF 'bakehouselaw1.PartRounds'. -/
def partRoundsUptoCard : Claim7 := { stood := { row := partRoundsUptoRow, standIns := [], harness := (true, "e40b30648ec620a38de08df93557e75a4730b86b5be458d8507ee0f484e708a2"), looks := true }, kinds := [], alts := [], goes := true, laidByText := true, laidKinds := [.handle, .sentinel, .sentinel, .sentinel, .sentinel, .sentinel, .sentinel, .sentinel, .sentinel, .sentinel, .sentinel], laidTests := true, laidLooks := .later }
def PartRoundsUptoCardSaid : Prop := Claim7.holds Tryd.pinned (.plain (OpenSpec.upto partRoundsSpec)) partRoundsUptoCard

/-- THE SECOND FORM's CARD OF 'bakehouselaw1.PartBends'. -/
def partBendsUptoCard : Claim7 := { stood := { row := partBendsUptoRow, standIns := [], harness := (true, "e40b30648ec620a38de08df93557e75a4730b86b5be458d8507ee0f484e708a2"), looks := true }, kinds := [], alts := [], goes := true, laidByText := true, laidKinds := [.handle, .sentinel, .sentinel, .sentinel, .sentinel, .sentinel, .sentinel, .sentinel, .sentinel, .sentinel, .sentinel], laidTests := true, laidLooks := .later }
def PartBendsUptoCardSaid : Prop := Claim7.holds Tryd.pinned (.plain (OpenSpec.upto partBendsSpec)) partBendsUptoCard

/-- THE SECOND FORM's CARD OF 'bakehouselaw2.RightBakers'. -/
def rightBakersUptoCard : Claim7 := { stood := { row := rightBakersUptoRow, standIns := [], harness := (true, "e40b30648ec620a38de08df93557e75a4730b86b5be458d8507ee0f484e708a2"), looks := true }, kinds := [], alts := [], goes := true, laidByText := true, laidKinds := [.handle, .sentinel, .sentinel, .sentinel, .sentinel, .sentinel, .sentinel, .sentinel, .sentinel, .sentinel, .sentinel], laidTests := true, laidLooks := .later }
def RightBakersUptoCardSaid : Prop := Claim7.holds Tryd.pinned (.plain (OpenSpec.upto rightBakersSpec)) rightBakersUptoCard

/-- THE SECOND FORM's CARD OF 'bakehouselaw2.IssueRates'. -/
def issueRatesUptoCard : Claim7 := { stood := { row := issueRatesUptoRow, standIns := [], harness := (true, "e40b30648ec620a38de08df93557e75a4730b86b5be458d8507ee0f484e708a2"), looks := true }, kinds := [], alts := [], goes := true, laidByText := true, laidKinds := [.handle, .sentinel, .sentinel, .sentinel, .sentinel, .sentinel, .sentinel, .sentinel, .sentinel, .sentinel, .sentinel], laidTests := true, laidLooks := .later }
def IssueRatesUptoCardSaid : Prop := Claim7.holds Tryd.pinned (.plain (OpenSpec.upto issueRatesSpec)) issueRatesUptoCard

/-- THE SECOND FORM's CARD OF 'bakehouselaw1.PoolActs'. -/
def poolActsUptoCard : Claim7 := { stood := { row := poolActsUptoRow, standIns := [], harness := (true, "e40b30648ec620a38de08df93557e75a4730b86b5be458d8507ee0f484e708a2"), looks := true }, kinds := [], alts := [], goes := true, laidByText := true, laidKinds := [.handle, .sentinel, .sentinel, .sentinel, .sentinel, .sentinel, .sentinel, .sentinel, .sentinel, .sentinel, .sentinel], laidTests := true, laidLooks := .later }
def PoolActsUptoCardSaid : Prop := Claim7.holds Tryd.pinned (.plain (OpenSpec.upto poolActsSpec)) poolActsUptoCard

/-- THE SECOND FORM's CARD OF 'bakehouselaw3.SideRights'. -/
def sideRightsUptoCard : Claim7 := { stood := { row := sideRightsUptoRow, standIns := [], harness := (true, "e40b30648ec620a38de08df93557e75a4730b86b5be458d8507ee0f484e708a2"), looks := true }, kinds := [], alts := [], goes := true, laidByText := true, laidKinds := [.handle, .sentinel, .sentinel, .sentinel, .sentinel, .sentinel, .sentinel, .sentinel, .sentinel, .sentinel, .sentinel], laidTests := true, laidLooks := .later }
def SideRightsUptoCardSaid : Prop := Claim7.holds Tryd.pinned (.plain (OpenSpec.upto sideRightsSpec)) sideRightsUptoCard

/-- THE SECOND FORM's CARD OF 'bakehouselaw2.StakeSums'. -/
def stakeSumsUptoCard : Claim7 := { stood := { row := stakeSumsUptoRow, standIns := [], harness := (true, "e40b30648ec620a38de08df93557e75a4730b86b5be458d8507ee0f484e708a2"), looks := true }, kinds := [], alts := [], laidByText := true, laidKinds := [.sentinel, .sentinel, .sentinel, .sentinel, .sentinel, .sentinel], laidTests := true, laidLooks := .later }
def StakeSumsUptoCardSaid : Prop := Claim7.holds Tryd.pinned (.plain (OpenSpec.upto stakeSumsSpec)) stakeSumsUptoCard
end Rows
end Go.Proofs.YtajnfkmkombajabDoor
