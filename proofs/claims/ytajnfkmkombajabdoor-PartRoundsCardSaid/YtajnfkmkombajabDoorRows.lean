/-
  NARROWER THAN 'FOR EVERY INPUT', by the rows' own cells (each row's printed sentence says how): CourtOnce: laid · CourtCases: laid · PurseActs: laid · DrawColumns: laid · PartRounds: laid · PartBends: laid · RightBakers: laid · IssueRates: laid · PoolActs: laid · SideRights: laid · StakeSums: laid.
  DERIVED. THE GIVEN ROWS OF THIS SEAT. 11 by the template 'for every input the law returns true; each argument reads behind the call as it read before'; 0 by the template 'total and deterministic' (their statements: YtajnfkmkombajabDoorTotals.lean).
  GIVEN WITH THE SEED: the statements are not yours to turn. If you find one false, say at which input.
  Laid BY PROGRAM, IN A SANDBOX (cutbox-rows.mjs): the forced cells as the released guide's own fill.sh prints them over the translation 129319eaa91732a2… (all of the seat's roots in one cut). By AI agents, Wed Nov 11 2026. No macro, syntax, notation, axiom, sorry.
-/
import Derived.Test.YtajnfkmkombajabDoorChecked
import GoSem.Claim
import GoSem.ClaimJoined
import GoSem.ClaimMapViews
import Derived.JoinedTies
import Derived.KernelRfl
namespace Go.Proofs.YtajnfkmkombajabDoor
/- THE CELL 'sum', in the pinned program and in every row, IS THE sha256 OF THE DUMP (.gsa) THAT YtajnfkmkombajabDoorProg.lean LOADS. Nothing in Lean hashes anything: it is a label: what it is worth is what the hold of that sum in a sandbox is worth. -/
noncomputable def Tryd.pinned : Pinned := { name := "ytajnfkmkombajabdoor", sum := "129319eaa91732a249488156045c64bdb9da3e0d8cf9606c6d3cff8e718e4085", checked := Tryd.checked }
namespace Rows
def none {H : Type} : Left H := { results := [], args := [] }

/- WHAT THE LISTED PACKAGE-LEVEL VARIABLES READ AS WHEN THE CALL BEGINS. Each datum BY PROGRAM (the guide's laid-datum.mjs) off the statement by which the dump's own 'gosem.cut.vars' lays the variable. In a bare row this is a premise. The card (YtajnfkmkombajabDoorCards.lean) ties it to the program's text. -/
def laid_errors_errorType {H : Type} : DataW H := .iface "internal/reflectlite.rtype" (.agg [.ptr (.lit (.string [101, 114, 114, 111, 114]))])
def laid_bakehouse_api_ErrText {H : Type} : DataW H := .iface "*errors.errorString" (.ptr (.agg [.lit (.string [98, 97, 107, 101, 104, 111, 117, 115, 101, 58, 32, 116, 101, 120, 116])]))
def laid_bakehouse_api_ErrBound {H : Type} : DataW H := .iface "*errors.errorString" (.ptr (.agg [.lit (.string [98, 97, 107, 101, 104, 111, 117, 115, 101, 58, 32, 98, 111, 117, 110, 100])]))
def laid_bakehouse_api_ErrShape {H : Type} : DataW H := .iface "*errors.errorString" (.ptr (.agg [.lit (.string [98, 97, 107, 101, 104, 111, 117, 115, 101, 58, 32, 115, 104, 97, 112, 101])]))
def laid_bakehouse_api_ErrNone {H : Type} : DataW H := .iface "*errors.errorString" (.ptr (.agg [.lit (.string [98, 97, 107, 101, 104, 111, 117, 115, 101, 58, 32, 110, 111, 110, 101])]))
def laid_bakehouse_api_ErrExist {H : Type} : DataW H := .iface "*errors.errorString" (.ptr (.agg [.lit (.string [98, 97, 107, 101, 104, 111, 117, 115, 101, 58, 32, 101, 120, 105, 115, 116])]))
def laid_bakehouse_api_ErrShort {H : Type} : DataW H := .iface "*errors.errorString" (.ptr (.agg [.lit (.string [98, 97, 107, 101, 104, 111, 117, 115, 101, 58, 32, 115, 104, 111, 114, 116])]))
def laid_bakehouse_api_ErrSmall {H : Type} : DataW H := .iface "*errors.errorString" (.ptr (.agg [.lit (.string [98, 97, 107, 101, 104, 111, 117, 115, 101, 58, 32, 115, 109, 97, 108, 108])]))
def laid_bakehouse_api_ErrGone {H : Type} : DataW H := .iface "*errors.errorString" (.ptr (.agg [.lit (.string [98, 97, 107, 101, 104, 111, 117, 115, 101, 58, 32, 103, 111, 110, 101])]))
def laid_bakehouse_api_ErrTurn {H : Type} : DataW H := .iface "*errors.errorString" (.ptr (.agg [.lit (.string [98, 97, 107, 101, 104, 111, 117, 115, 101, 58, 32, 116, 117, 114, 110])]))
def laid_bakehouse_api_ErrOld {H : Type} : DataW H := .iface "*errors.errorString" (.ptr (.agg [.lit (.string [98, 97, 107, 101, 104, 111, 117, 115, 101, 58, 32, 111, 108, 100])]))

/-- 'bakehouselaw2.CourtOnce': WHATEVER THE INPUT: true; the input reads as it did. -/
def courtOnceSpec : ChangeSpec := { name := "courtOnce", fn := fun _ => fun
  | [d] => { results := [.lit (.bool true)], args := [d] }
  | _ => none }
def courtOnceRow : OpenClaim := { program := "ytajnfkmkombajabdoor", sum := "129319eaa91732a249488156045c64bdb9da3e0d8cf9606c6d3cff8e718e4085", func := "bakehouse/bakehouselaw2.CourtOnce", spec := "courtOnce", inPlace := ["internal/reflectlite.ValueOf", "(internal/reflectlite.Value).Type", "(internal/reflectlite.Value).IsNil", "internal/reflectlite.TypeOf", "(internal/reflectlite.Value).Elem", "(internal/reflectlite.Value).Set"], unfollowed := true, recurses := true, named := ["bakehouse/api.ErrBound", "bakehouse/api.ErrOld", "bakehouse/api.ErrExist", "bakehouse/api.ErrText", "bakehouse/api.ErrShape", "bakehouse/api.ErrNone", "bakehouse/api.ErrShort", "bakehouse/api.ErrSmall", "bakehouse/api.ErrGone", "bakehouse/api.ErrTurn", "errors.errorType"], plainKeys := false, leaving := true, apart := false, laid := [("errors.errorType", laid_errors_errorType), ("bakehouse/api.ErrText", laid_bakehouse_api_ErrText), ("bakehouse/api.ErrBound", laid_bakehouse_api_ErrBound), ("bakehouse/api.ErrShape", laid_bakehouse_api_ErrShape), ("bakehouse/api.ErrNone", laid_bakehouse_api_ErrNone), ("bakehouse/api.ErrExist", laid_bakehouse_api_ErrExist), ("bakehouse/api.ErrShort", laid_bakehouse_api_ErrShort), ("bakehouse/api.ErrSmall", laid_bakehouse_api_ErrSmall), ("bakehouse/api.ErrGone", laid_bakehouse_api_ErrGone), ("bakehouse/api.ErrTurn", laid_bakehouse_api_ErrTurn), ("bakehouse/api.ErrOld", laid_bakehouse_api_ErrOld)] }
def CourtOnceSaid : Prop := courtOnceRow.holds Tryd.pinned (OpenSpec.ofChange courtOnceSpec)

/-- ITS FALSE NEIGHBOUR: 'it returns false'. Refute it at one input. -/
def courtOnceWrong : ChangeSpec := { name := "courtOnce", fn := fun _ => fun
  | [d] => { results := [.lit (.bool false)], args := [d] }
  | _ => none }
def CourtOnceWrongFalsely : Prop := courtOnceRow.holds Tryd.pinned (OpenSpec.ofChange courtOnceWrong)

/-- 'bakehouselaw2.CourtCases': WHATEVER THE INPUT: true; the input reads as it did. -/
def courtCasesSpec : ChangeSpec := { name := "courtCases", fn := fun _ => fun
  | [d1, d2] => { results := [.lit (.bool true)], args := [d1, d2] }
  | _ => none }
def courtCasesRow : OpenClaim := { program := "ytajnfkmkombajabdoor", sum := "129319eaa91732a249488156045c64bdb9da3e0d8cf9606c6d3cff8e718e4085", func := "bakehouse/bakehouselaw2.CourtCases", spec := "courtCases", inPlace := ["internal/reflectlite.ValueOf", "(internal/reflectlite.Value).Type", "(internal/reflectlite.Value).IsNil", "internal/reflectlite.TypeOf", "(internal/reflectlite.Value).Elem", "(internal/reflectlite.Value).Set"], unfollowed := true, recurses := true, named := ["bakehouse/api.ErrBound", "bakehouse/api.ErrOld", "bakehouse/api.ErrExist", "bakehouse/api.ErrText", "bakehouse/api.ErrShape", "bakehouse/api.ErrNone", "bakehouse/api.ErrShort", "bakehouse/api.ErrSmall", "bakehouse/api.ErrGone", "bakehouse/api.ErrTurn", "errors.errorType"], plainKeys := false, leaving := true, apart := false, laid := [("errors.errorType", laid_errors_errorType), ("bakehouse/api.ErrText", laid_bakehouse_api_ErrText), ("bakehouse/api.ErrBound", laid_bakehouse_api_ErrBound), ("bakehouse/api.ErrShape", laid_bakehouse_api_ErrShape), ("bakehouse/api.ErrNone", laid_bakehouse_api_ErrNone), ("bakehouse/api.ErrExist", laid_bakehouse_api_ErrExist), ("bakehouse/api.ErrShort", laid_bakehouse_api_ErrShort), ("bakehouse/api.ErrSmall", laid_bakehouse_api_ErrSmall), ("bakehouse/api.ErrGone", laid_bakehouse_api_ErrGone), ("bakehouse/api.ErrTurn", laid_bakehouse_api_ErrTurn), ("bakehouse/api.ErrOld", laid_bakehouse_api_ErrOld)] }
def CourtCasesSaid : Prop := courtCasesRow.holds Tryd.pinned (OpenSpec.ofChange courtCasesSpec)

/-- ITS FALSE NEIGHBOUR: 'it returns false'. Refute it at one input. -/
def courtCasesWrong : ChangeSpec := { name := "courtCases", fn := fun _ => fun
  | [d1, d2] => { results := [.lit (.bool false)], args := [d1, d2] }
  | _ => none }
def CourtCasesWrongFalsely : Prop := courtCasesRow.holds Tryd.pinned (OpenSpec.ofChange courtCasesWrong)

/-- 'bakehouselaw1.PurseActs': WHATEVER THE INPUT: true; the input reads as it did. -/
def purseActsSpec : ChangeSpec := { name := "purseActs", fn := fun _ => fun
  | [d1, d2] => { results := [.lit (.bool true)], args := [d1, d2] }
  | _ => none }
def purseActsRow : OpenClaim := { program := "ytajnfkmkombajabdoor", sum := "129319eaa91732a249488156045c64bdb9da3e0d8cf9606c6d3cff8e718e4085", func := "bakehouse/bakehouselaw1.PurseActs", spec := "purseActs", inPlace := ["internal/reflectlite.ValueOf", "(internal/reflectlite.Value).Type", "(internal/reflectlite.Value).IsNil", "internal/reflectlite.TypeOf", "(internal/reflectlite.Value).Elem", "(internal/reflectlite.Value).Set"], unfollowed := true, recurses := true, named := ["bakehouse/api.ErrBound", "bakehouse/api.ErrShort", "bakehouse/api.ErrText", "bakehouse/api.ErrShape", "bakehouse/api.ErrNone", "bakehouse/api.ErrExist", "bakehouse/api.ErrSmall", "bakehouse/api.ErrGone", "bakehouse/api.ErrTurn", "bakehouse/api.ErrOld", "errors.errorType"], plainKeys := false, leaving := true, apart := false, laid := [("errors.errorType", laid_errors_errorType), ("bakehouse/api.ErrText", laid_bakehouse_api_ErrText), ("bakehouse/api.ErrBound", laid_bakehouse_api_ErrBound), ("bakehouse/api.ErrShape", laid_bakehouse_api_ErrShape), ("bakehouse/api.ErrNone", laid_bakehouse_api_ErrNone), ("bakehouse/api.ErrExist", laid_bakehouse_api_ErrExist), ("bakehouse/api.ErrShort", laid_bakehouse_api_ErrShort), ("bakehouse/api.ErrSmall", laid_bakehouse_api_ErrSmall), ("bakehouse/api.ErrGone", laid_bakehouse_api_ErrGone), ("bakehouse/api.ErrTurn", laid_bakehouse_api_ErrTurn), ("bakehouse/api.ErrOld", laid_bakehouse_api_ErrOld)] }
def PurseActsSaid : Prop := purseActsRow.holds Tryd.pinned (OpenSpec.ofChange purseActsSpec)

/-- ITS FALSE NEIGHBOUR: 'it returns false'. Refute it at one input. -/
def purseActsWrong : ChangeSpec := { name := "purseActs", fn := fun _ => fun
  | [d1, d2] => { results := [.lit (.bool false)], args := [d1, d2] }
  | _ => none }
def PurseActsWrongFalsely : Prop := purseActsRow.holds Tryd.pinned (OpenSpec.ofChange purseActsWrong)

/-- 'bakehouselaw1.DrawColumns': WHATEVER THE INPUT: true; the input reads as it did. -/
def drawColumnsSpec : ChangeSpec := { name := "drawColumns", fn := fun _ => fun
  | [d1, d2, d3] => { results := [.lit (.bool true)], args := [d1, d2, d3] }
  | _ => none }
def drawColumnsRow : OpenClaim := { program := "ytajnfkmkombajabdoor", sum := "129319eaa91732a249488156045c64bdb9da3e0d8cf9606c6d3cff8e718e4085", func := "bakehouse/bakehouselaw1.DrawColumns", spec := "drawColumns", inPlace := ["internal/reflectlite.ValueOf", "(internal/reflectlite.Value).Type", "(internal/reflectlite.Value).IsNil", "internal/reflectlite.TypeOf", "(internal/reflectlite.Value).Elem", "(internal/reflectlite.Value).Set"], unfollowed := true, recurses := true, named := ["bakehouse/api.ErrShape", "bakehouse/api.ErrBound", "bakehouse/api.ErrNone", "bakehouse/api.ErrText", "bakehouse/api.ErrExist", "bakehouse/api.ErrShort", "bakehouse/api.ErrSmall", "bakehouse/api.ErrGone", "bakehouse/api.ErrTurn", "bakehouse/api.ErrOld", "errors.errorType"], plainKeys := false, leaving := true, apart := false, laid := [("errors.errorType", laid_errors_errorType), ("bakehouse/api.ErrText", laid_bakehouse_api_ErrText), ("bakehouse/api.ErrBound", laid_bakehouse_api_ErrBound), ("bakehouse/api.ErrShape", laid_bakehouse_api_ErrShape), ("bakehouse/api.ErrNone", laid_bakehouse_api_ErrNone), ("bakehouse/api.ErrExist", laid_bakehouse_api_ErrExist), ("bakehouse/api.ErrShort", laid_bakehouse_api_ErrShort), ("bakehouse/api.ErrSmall", laid_bakehouse_api_ErrSmall), ("bakehouse/api.ErrGone", laid_bakehouse_api_ErrGone), ("bakehouse/api.ErrTurn", laid_bakehouse_api_ErrTurn), ("bakehouse/api.ErrOld", laid_bakehouse_api_ErrOld)] }
def DrawColumnsSaid : Prop := drawColumnsRow.holds Tryd.pinned (OpenSpec.ofChange drawColumnsSpec)

/-- ITS FALSE NEIGHBOUR: 'it returns false'. Refute it at one input. -/
def drawColumnsWrong : ChangeSpec := { name := "drawColumns", fn := fun _ => fun
  | [d1, d2, d3] => { results := [.lit (.bool false)], args := [d1, d2, d3] }
  | _ => none }
def DrawColumnsWrongFalsely : Prop := drawColumnsRow.holds Tryd.pinned (OpenSpec.ofChange drawColumnsWrong)

/-- 'bakehouselaw1.PartRounds': WHATEVER THE INPUT: true; the input reads as it did. -/
def partRoundsSpec : ChangeSpec := { name := "partRounds", fn := fun _ => fun
  | [d1, d2, d3] => { results := [.lit (.bool true)], args := [d1, d2, d3] }
  | _ => none }
def partRoundsRow : OpenClaim := { program := "ytajnfkmkombajabdoor", sum := "129319eaa91732a249488156045c64bdb9da3e0d8cf9606c6d3cff8e718e4085", func := "bakehouse/bakehouselaw1.PartRounds", spec := "partRounds", inPlace := ["internal/reflectlite.ValueOf", "(internal/reflectlite.Value).Type", "(internal/reflectlite.Value).IsNil", "internal/reflectlite.TypeOf", "(internal/reflectlite.Value).Elem", "(internal/reflectlite.Value).Set"], unfollowed := true, recurses := true, named := ["bakehouse/api.ErrBound", "math/bits.divideError", "math/bits.overflowError", "bakehouse/api.ErrText", "bakehouse/api.ErrShape", "bakehouse/api.ErrNone", "bakehouse/api.ErrExist", "bakehouse/api.ErrShort", "bakehouse/api.ErrSmall", "bakehouse/api.ErrGone", "bakehouse/api.ErrTurn", "bakehouse/api.ErrOld", "errors.errorType"], plainKeys := false, leaving := true, apart := false, laid := [("errors.errorType", laid_errors_errorType), ("bakehouse/api.ErrText", laid_bakehouse_api_ErrText), ("bakehouse/api.ErrBound", laid_bakehouse_api_ErrBound), ("bakehouse/api.ErrShape", laid_bakehouse_api_ErrShape), ("bakehouse/api.ErrNone", laid_bakehouse_api_ErrNone), ("bakehouse/api.ErrExist", laid_bakehouse_api_ErrExist), ("bakehouse/api.ErrShort", laid_bakehouse_api_ErrShort), ("bakehouse/api.ErrSmall", laid_bakehouse_api_ErrSmall), ("bakehouse/api.ErrGone", laid_bakehouse_api_ErrGone), ("bakehouse/api.ErrTurn", laid_bakehouse_api_ErrTurn), ("bakehouse/api.ErrOld", laid_bakehouse_api_ErrOld)] }
def PartRoundsSaid : Prop := partRoundsRow.holds Tryd.pinned (OpenSpec.ofChange partRoundsSpec)

/-- ITS FALSE NEIGHBOUR: 'it returns false'. Refute it at one input. -/
def partRoundsWrong : ChangeSpec := { name := "partRounds", fn := fun _ => fun
  | [d1, d2, d3] => { results := [.lit (.bool false)], args := [d1, d2, d3] }
  | _ => none }
def PartRoundsWrongFalsely : Prop := partRoundsRow.holds Tryd.pinned (OpenSpec.ofChange partRoundsWrong)

/-- 'bakehouselaw1.PartBends': WHATEVER THE INPUT: true; the input reads as it did. -/
def partBendsSpec : ChangeSpec := { name := "partBends", fn := fun _ => fun
  | [d1, d2] => { results := [.lit (.bool true)], args := [d1, d2] }
  | _ => none }
def partBendsRow : OpenClaim := { program := "ytajnfkmkombajabdoor", sum := "129319eaa91732a249488156045c64bdb9da3e0d8cf9606c6d3cff8e718e4085", func := "bakehouse/bakehouselaw1.PartBends", spec := "partBends", inPlace := ["internal/reflectlite.ValueOf", "(internal/reflectlite.Value).Type", "(internal/reflectlite.Value).IsNil", "internal/reflectlite.TypeOf", "(internal/reflectlite.Value).Elem", "(internal/reflectlite.Value).Set"], unfollowed := true, recurses := true, named := ["bakehouse/api.ErrBound", "math/bits.divideError", "math/bits.overflowError", "bakehouse/api.ErrShape", "bakehouse/api.ErrText", "bakehouse/api.ErrNone", "bakehouse/api.ErrExist", "bakehouse/api.ErrShort", "bakehouse/api.ErrSmall", "bakehouse/api.ErrGone", "bakehouse/api.ErrTurn", "bakehouse/api.ErrOld", "errors.errorType"], plainKeys := false, leaving := true, apart := false, laid := [("errors.errorType", laid_errors_errorType), ("bakehouse/api.ErrText", laid_bakehouse_api_ErrText), ("bakehouse/api.ErrBound", laid_bakehouse_api_ErrBound), ("bakehouse/api.ErrShape", laid_bakehouse_api_ErrShape), ("bakehouse/api.ErrNone", laid_bakehouse_api_ErrNone), ("bakehouse/api.ErrExist", laid_bakehouse_api_ErrExist), ("bakehouse/api.ErrShort", laid_bakehouse_api_ErrShort), ("bakehouse/api.ErrSmall", laid_bakehouse_api_ErrSmall), ("bakehouse/api.ErrGone", laid_bakehouse_api_ErrGone), ("bakehouse/api.ErrTurn", laid_bakehouse_api_ErrTurn), ("bakehouse/api.ErrOld", laid_bakehouse_api_ErrOld)] }
def PartBendsSaid : Prop := partBendsRow.holds Tryd.pinned (OpenSpec.ofChange partBendsSpec)

/-- ITS FALSE NEIGHBOUR: 'it returns false'. Refute it at one input. -/
def partBendsWrong : ChangeSpec := { name := "partBends", fn := fun _ => fun
  | [d1, d2] => { results := [.lit (.bool false)], args := [d1, d2] }
  | _ => none }
def PartBendsWrongFalsely : Prop := partBendsRow.holds Tryd.pinned (OpenSpec.ofChange partBendsWrong)

/-- 'bakehouselaw2.RightBakers': WHATEVER THE INPUT: true; the input reads as it did. -/
def rightBakersSpec : ChangeSpec := { name := "rightBakers", fn := fun _ => fun
  | [d1, d2, d3, d4, d5] => { results := [.lit (.bool true)], args := [d1, d2, d3, d4, d5] }
  | _ => none }
def rightBakersRow : OpenClaim := { program := "ytajnfkmkombajabdoor", sum := "129319eaa91732a249488156045c64bdb9da3e0d8cf9606c6d3cff8e718e4085", func := "bakehouse/bakehouselaw2.RightBakers", spec := "rightBakers", inPlace := ["internal/reflectlite.ValueOf", "(internal/reflectlite.Value).Type", "(internal/reflectlite.Value).IsNil", "internal/reflectlite.TypeOf", "(internal/reflectlite.Value).Elem", "(internal/reflectlite.Value).Set"], unfollowed := true, recurses := true, named := ["bakehouse/api.ErrBound", "bakehouse/api.ErrShape", "bakehouse/api.ErrNone", "bakehouse/api.ErrText", "bakehouse/api.ErrExist", "bakehouse/api.ErrShort", "bakehouse/api.ErrSmall", "bakehouse/api.ErrGone", "bakehouse/api.ErrTurn", "bakehouse/api.ErrOld", "errors.errorType"], plainKeys := false, leaving := true, apart := false, laid := [("errors.errorType", laid_errors_errorType), ("bakehouse/api.ErrText", laid_bakehouse_api_ErrText), ("bakehouse/api.ErrBound", laid_bakehouse_api_ErrBound), ("bakehouse/api.ErrShape", laid_bakehouse_api_ErrShape), ("bakehouse/api.ErrNone", laid_bakehouse_api_ErrNone), ("bakehouse/api.ErrExist", laid_bakehouse_api_ErrExist), ("bakehouse/api.ErrShort", laid_bakehouse_api_ErrShort), ("bakehouse/api.ErrSmall", laid_bakehouse_api_ErrSmall), ("bakehouse/api.ErrGone", laid_bakehouse_api_ErrGone), ("bakehouse/api.ErrTurn", laid_bakehouse_api_ErrTurn), ("bakehouse/api.ErrOld", laid_bakehouse_api_ErrOld)] }
def RightBakersSaid : Prop := rightBakersRow.holds Tryd.pinned (OpenSpec.ofChange rightBakersSpec)

/-- ITS FALSE NEIGHBOUR: 'it returns false'. Refute it at one input. -/
def rightBakersWrong : ChangeSpec := { name := "rightBakers", fn := fun _ => fun
  | [d1, d2, d3, d4, d5] => { results := [.lit (.bool false)], args := [d1, d2, d3, d4, d5] }
  | _ => none }
def RightBakersWrongFalsely : Prop := rightBakersRow.holds Tryd.pinned (OpenSpec.ofChange rightBakersWrong)

/-- 'bakehouselaw2.IssueRates': WHATEVER THE INPUT: true; the input reads as it did. -/
def issueRatesSpec : ChangeSpec := { name := "issueRates", fn := fun _ => fun
  | [d1, d2, d3, d4, d5] => { results := [.lit (.bool true)], args := [d1, d2, d3, d4, d5] }
  | _ => none }
def issueRatesRow : OpenClaim := { program := "ytajnfkmkombajabdoor", sum := "129319eaa91732a249488156045c64bdb9da3e0d8cf9606c6d3cff8e718e4085", func := "bakehouse/bakehouselaw2.IssueRates", spec := "issueRates", inPlace := ["internal/reflectlite.ValueOf", "(internal/reflectlite.Value).Type", "(internal/reflectlite.Value).IsNil", "internal/reflectlite.TypeOf", "(internal/reflectlite.Value).Elem", "(internal/reflectlite.Value).Set"], unfollowed := true, recurses := true, named := ["bakehouse/api.ErrBound", "math/bits.divideError", "math/bits.overflowError", "bakehouse/api.ErrShape", "bakehouse/api.ErrText", "bakehouse/api.ErrNone", "bakehouse/api.ErrExist", "bakehouse/api.ErrShort", "bakehouse/api.ErrSmall", "bakehouse/api.ErrGone", "bakehouse/api.ErrTurn", "bakehouse/api.ErrOld", "errors.errorType"], plainKeys := false, leaving := true, apart := false, laid := [("errors.errorType", laid_errors_errorType), ("bakehouse/api.ErrText", laid_bakehouse_api_ErrText), ("bakehouse/api.ErrBound", laid_bakehouse_api_ErrBound), ("bakehouse/api.ErrShape", laid_bakehouse_api_ErrShape), ("bakehouse/api.ErrNone", laid_bakehouse_api_ErrNone), ("bakehouse/api.ErrExist", laid_bakehouse_api_ErrExist), ("bakehouse/api.ErrShort", laid_bakehouse_api_ErrShort), ("bakehouse/api.ErrSmall", laid_bakehouse_api_ErrSmall), ("bakehouse/api.ErrGone", laid_bakehouse_api_ErrGone), ("bakehouse/api.ErrTurn", laid_bakehouse_api_ErrTurn), ("bakehouse/api.ErrOld", laid_bakehouse_api_ErrOld)] }
def IssueRatesSaid : Prop := issueRatesRow.holds Tryd.pinned (OpenSpec.ofChange issueRatesSpec)

/-- ITS FALSE NEIGHBOUR: 'it returns false'. Refute it at one input. -/
def issueRatesWrong : ChangeSpec := { name := "issueRates", fn := fun _ => fun
  | [d1, d2, d3, d4, d5] => { results := [.lit (.bool false)], args := [d1, d2, d3, d4, d5] }
  | _ => none }
def IssueRatesWrongFalsely : Prop := issueRatesRow.holds Tryd.pinned (OpenSpec.ofChange issueRatesWrong)

/-- 'bakehouselaw1.PoolActs': WHATEVER THE INPUT: true; the input reads as it did. -/
def poolActsSpec : ChangeSpec := { name := "poolActs", fn := fun _ => fun
  | [d] => { results := [.lit (.bool true)], args := [d] }
  | _ => none }
def poolActsRow : OpenClaim := { program := "ytajnfkmkombajabdoor", sum := "129319eaa91732a249488156045c64bdb9da3e0d8cf9606c6d3cff8e718e4085", func := "bakehouse/bakehouselaw1.PoolActs", spec := "poolActs", inPlace := ["internal/reflectlite.ValueOf", "(internal/reflectlite.Value).Type", "(internal/reflectlite.Value).IsNil", "internal/reflectlite.TypeOf", "(internal/reflectlite.Value).Elem", "(internal/reflectlite.Value).Set"], unfollowed := true, recurses := true, named := ["bakehouse/api.ErrGone", "bakehouse/api.ErrBound", "bakehouse/api.ErrSmall", "math/bits.divideError", "math/bits.overflowError", "bakehouse/api.ErrNone", "bakehouse/api.ErrText", "bakehouse/api.ErrShape", "bakehouse/api.ErrExist", "bakehouse/api.ErrShort", "bakehouse/api.ErrTurn", "bakehouse/api.ErrOld", "errors.errorType"], plainKeys := false, leaving := true, apart := false, laid := [("errors.errorType", laid_errors_errorType), ("bakehouse/api.ErrText", laid_bakehouse_api_ErrText), ("bakehouse/api.ErrBound", laid_bakehouse_api_ErrBound), ("bakehouse/api.ErrShape", laid_bakehouse_api_ErrShape), ("bakehouse/api.ErrNone", laid_bakehouse_api_ErrNone), ("bakehouse/api.ErrExist", laid_bakehouse_api_ErrExist), ("bakehouse/api.ErrShort", laid_bakehouse_api_ErrShort), ("bakehouse/api.ErrSmall", laid_bakehouse_api_ErrSmall), ("bakehouse/api.ErrGone", laid_bakehouse_api_ErrGone), ("bakehouse/api.ErrTurn", laid_bakehouse_api_ErrTurn), ("bakehouse/api.ErrOld", laid_bakehouse_api_ErrOld)] }
def PoolActsSaid : Prop := poolActsRow.holds Tryd.pinned (OpenSpec.ofChange poolActsSpec)

/-- ITS FALSE NEIGHBOUR: 'it returns false'. Refute it at one input. -/
def poolActsWrong : ChangeSpec := { name := "poolActs", fn := fun _ => fun
  | [d] => { results := [.lit (.bool false)], args := [d] }
  | _ => none }
def PoolActsWrongFalsely : Prop := poolActsRow.holds Tryd.pinned (OpenSpec.ofChange poolActsWrong)

/-- 'bakehouselaw3.SideRights': WHATEVER THE INPUT: true; the input reads as it did. -/
def sideRightsSpec : ChangeSpec := { name := "sideRights", fn := fun _ => fun
  | [d1, d2, d3, d4, d5] => { results := [.lit (.bool true)], args := [d1, d2, d3, d4, d5] }
  | _ => none }
def sideRightsRow : OpenClaim := { program := "ytajnfkmkombajabdoor", sum := "129319eaa91732a249488156045c64bdb9da3e0d8cf9606c6d3cff8e718e4085", func := "bakehouse/bakehouselaw3.SideRights", spec := "sideRights", inPlace := ["(*sync.WaitGroup).Go", "(*sync.WaitGroup).Add", "internal/race.ReleaseMerge", "internal/race.Disable", "internal/race.Enable", "internal/synctest.IsInBubble", "internal/synctest.Associate[sync.WaitGroup]", "sync.fatal", "sync/atomic.OrUint64", "sync/atomic.AddUint64", "internal/race.Read", "sync/atomic.LoadUint64", "sync/atomic.StoreUint64", "internal/synctest.Disassociate[sync.WaitGroup]", "sync.runtime_Semrelease", "(*sync.WaitGroup).Go$1", "(*sync.WaitGroup).Go$1$1", "(*sync.WaitGroup).Done", "(*sync.WaitGroup).Wait", "internal/race.Acquire", "internal/synctest.IsAssociated[sync.WaitGroup]", "sync/atomic.CompareAndSwapUint64", "internal/race.Write", "sync.runtime_SemacquireWaitGroup", "internal/reflectlite.ValueOf", "(internal/reflectlite.Value).Type", "(internal/reflectlite.Value).IsNil", "internal/reflectlite.TypeOf", "(internal/reflectlite.Value).Elem", "(internal/reflectlite.Value).Set"], unfollowed := true, recurses := true, named := ["bakehouse/api.ErrShape", "bakehouse/api.ErrBound", "bakehouse/api.ErrNone", "errors.errorType", "bakehouse/api.ErrText", "bakehouse/api.ErrExist", "bakehouse/api.ErrShort", "bakehouse/api.ErrSmall", "bakehouse/api.ErrGone", "bakehouse/api.ErrTurn", "bakehouse/api.ErrOld"], plainKeys := false, leaving := true, apart := false, laid := [("errors.errorType", laid_errors_errorType), ("bakehouse/api.ErrText", laid_bakehouse_api_ErrText), ("bakehouse/api.ErrBound", laid_bakehouse_api_ErrBound), ("bakehouse/api.ErrShape", laid_bakehouse_api_ErrShape), ("bakehouse/api.ErrNone", laid_bakehouse_api_ErrNone), ("bakehouse/api.ErrExist", laid_bakehouse_api_ErrExist), ("bakehouse/api.ErrShort", laid_bakehouse_api_ErrShort), ("bakehouse/api.ErrSmall", laid_bakehouse_api_ErrSmall), ("bakehouse/api.ErrGone", laid_bakehouse_api_ErrGone), ("bakehouse/api.ErrTurn", laid_bakehouse_api_ErrTurn), ("bakehouse/api.ErrOld", laid_bakehouse_api_ErrOld)] }
def SideRightsSaid : Prop := sideRightsRow.holds Tryd.pinned (OpenSpec.ofChange sideRightsSpec)

/-- ITS FALSE NEIGHBOUR: 'it returns false'. Refute it at one input. -/
def sideRightsWrong : ChangeSpec := { name := "sideRights", fn := fun _ => fun
  | [d1, d2, d3, d4, d5] => { results := [.lit (.bool false)], args := [d1, d2, d3, d4, d5] }
  | _ => none }
def SideRightsWrongFalsely : Prop := sideRightsRow.holds Tryd.pinned (OpenSpec.ofChange sideRightsWrong)

/-- 'bakehouselaw2.StakeSums': WHATEVER THE INPUT: true; the input reads as it did. -/
def stakeSumsSpec : ChangeSpec := { name := "stakeSums", fn := fun _ => fun
  | [d] => { results := [.lit (.bool true)], args := [d] }
  | _ => none }
def stakeSumsRow : OpenClaim := { program := "ytajnfkmkombajabdoor", sum := "129319eaa91732a249488156045c64bdb9da3e0d8cf9606c6d3cff8e718e4085", func := "bakehouse/bakehouselaw2.StakeSums", spec := "stakeSums", inPlace := ["maps.clone"], recurses := true, named := ["bakehouse/api.ErrBound", "bakehouse/api.ErrExist", "bakehouse/api.ErrNone", "bakehouse/api.ErrGone", "bakehouse/api.ErrSmall", "math/bits.divideError", "math/bits.overflowError", "bakehouse/api.ErrShort"], plainKeys := false, apart := false, laid := [("bakehouse/api.ErrBound", laid_bakehouse_api_ErrBound), ("bakehouse/api.ErrNone", laid_bakehouse_api_ErrNone), ("bakehouse/api.ErrExist", laid_bakehouse_api_ErrExist), ("bakehouse/api.ErrShort", laid_bakehouse_api_ErrShort), ("bakehouse/api.ErrSmall", laid_bakehouse_api_ErrSmall), ("bakehouse/api.ErrGone", laid_bakehouse_api_ErrGone)] }
def StakeSumsSaid : Prop := stakeSumsRow.holds Tryd.pinned (OpenSpec.ofChange stakeSumsSpec)

/-- ITS FALSE NEIGHBOUR: 'it returns false'. Refute it at one input. -/
def stakeSumsWrong : ChangeSpec := { name := "stakeSums", fn := fun _ => fun
  | [d] => { results := [.lit (.bool false)], args := [d] }
  | _ => none }
def StakeSumsWrongFalsely : Prop := stakeSumsRow.holds Tryd.pinned (OpenSpec.ofChange stakeSumsWrong)

/- THE SECOND FORM. 'bulk': how many values and letters a reading holds, each counted each time it is reached (what is shared counts as often as it is met; a slice's spare places count too). A statement '..UptoSaid' is the law's where the arguments, and the package variables that the reading takes, are together of bulk at most 1048576: NARROWER than '..Said'. Prove '..Said' where nothing that the law and all that it calls make is longer than what came in: it says more and counts as full. Else prove '..UptoSaid'. A law counts once. -/
mutual
def uptoBulk {H : Type} : DataW H → Nat
  | .lit (.string bytes) => bytes.length + 1
  | .lit _ => 1
  | .nil => 1
  | .ptr d => uptoBulk d + 1
  | .slice elems spare => uptoBulkAll elems + uptoBulkAll spare + 1
  | .agg parts => uptoBulkAll parts + 1
  | .iface _ d => uptoBulk d + 1
  | .map entries => uptoBulkEntries entries + 1
  | .held _ => 1
def uptoBulkAll {H : Type} : List (DataW H) → Nat
  | [] => 0
  | d :: r => uptoBulk d + uptoBulkAll r
def uptoBulkEntries {H : Type} : List (Lit × DataW H) → Nat
  | [] => 0
  | x :: r => uptoBulkEntry x + uptoBulkEntries r
def uptoBulkEntry {H : Type} : Lit × DataW H → Nat
  | (.string bytes, d) => bytes.length + uptoBulk d + 1
  | (_, d) => uptoBulk d + 1
 end
def uptoSmall : (H : Type) → List (DataW H) → Bool := fun _ ds => decide (uptoBulkAll ds ≤ 1048576)
def OpenSpec.upto (s : _root_.Go.ChangeSpec) : _root_.Go.OpenSpec := { _root_.Go.OpenSpec.ofChange s with cond := some uptoSmall }

/-- 'bakehouselaw2.CourtOnce', WHERE WHAT IT READS IS OF BULK AT MOST 1048576: true; the input reads as it did. -/
def courtOnceUptoRow : OpenClaim := { program := "ytajnfkmkombajabdoor", sum := "129319eaa91732a249488156045c64bdb9da3e0d8cf9606c6d3cff8e718e4085", func := "bakehouse/bakehouselaw2.CourtOnce", spec := "courtOnce", inPlace := ["internal/reflectlite.ValueOf", "(internal/reflectlite.Value).Type", "(internal/reflectlite.Value).IsNil", "internal/reflectlite.TypeOf", "(internal/reflectlite.Value).Elem", "(internal/reflectlite.Value).Set"], unfollowed := true, recurses := true, named := ["bakehouse/api.ErrBound", "bakehouse/api.ErrOld", "bakehouse/api.ErrExist", "bakehouse/api.ErrText", "bakehouse/api.ErrShape", "bakehouse/api.ErrNone", "bakehouse/api.ErrShort", "bakehouse/api.ErrSmall", "bakehouse/api.ErrGone", "bakehouse/api.ErrTurn", "errors.errorType"], plainKeys := false, leaving := true, apart := false, laid := [("errors.errorType", laid_errors_errorType), ("bakehouse/api.ErrText", laid_bakehouse_api_ErrText), ("bakehouse/api.ErrBound", laid_bakehouse_api_ErrBound), ("bakehouse/api.ErrShape", laid_bakehouse_api_ErrShape), ("bakehouse/api.ErrNone", laid_bakehouse_api_ErrNone), ("bakehouse/api.ErrExist", laid_bakehouse_api_ErrExist), ("bakehouse/api.ErrShort", laid_bakehouse_api_ErrShort), ("bakehouse/api.ErrSmall", laid_bakehouse_api_ErrSmall), ("bakehouse/api.ErrGone", laid_bakehouse_api_ErrGone), ("bakehouse/api.ErrTurn", laid_bakehouse_api_ErrTurn), ("bakehouse/api.ErrOld", laid_bakehouse_api_ErrOld)], narrowed := true }
def CourtOnceUptoSaid : Prop := courtOnceUptoRow.holds Tryd.pinned (OpenSpec.upto courtOnceSpec)

/-- 'bakehouselaw2.CourtCases', WHERE WHAT IT READS IS OF BULK AT MOST 1048576: true; the input reads as it did. -/
def courtCasesUptoRow : OpenClaim := { program := "ytajnfkmkombajabdoor", sum := "129319eaa91732a249488156045c64bdb9da3e0d8cf9606c6d3cff8e718e4085", func := "bakehouse/bakehouselaw2.CourtCases", spec := "courtCases", inPlace := ["internal/reflectlite.ValueOf", "(internal/reflectlite.Value).Type", "(internal/reflectlite.Value).IsNil", "internal/reflectlite.TypeOf", "(internal/reflectlite.Value).Elem", "(internal/reflectlite.Value).Set"], unfollowed := true, recurses := true, named := ["bakehouse/api.ErrBound", "bakehouse/api.ErrOld", "bakehouse/api.ErrExist", "bakehouse/api.ErrText", "bakehouse/api.ErrShape", "bakehouse/api.ErrNone", "bakehouse/api.ErrShort", "bakehouse/api.ErrSmall", "bakehouse/api.ErrGone", "bakehouse/api.ErrTurn", "errors.errorType"], plainKeys := false, leaving := true, apart := false, laid := [("errors.errorType", laid_errors_errorType), ("bakehouse/api.ErrText", laid_bakehouse_api_ErrText), ("bakehouse/api.ErrBound", laid_bakehouse_api_ErrBound), ("bakehouse/api.ErrShape", laid_bakehouse_api_ErrShape), ("bakehouse/api.ErrNone", laid_bakehouse_api_ErrNone), ("bakehouse/api.ErrExist", laid_bakehouse_api_ErrExist), ("bakehouse/api.ErrShort", laid_bakehouse_api_ErrShort), ("bakehouse/api.ErrSmall", laid_bakehouse_api_ErrSmall), ("bakehouse/api.ErrGone", laid_bakehouse_api_ErrGone), ("bakehouse/api.ErrTurn", laid_bakehouse_api_ErrTurn), ("bakehouse/api.ErrOld", laid_bakehouse_api_ErrOld)], narrowed := true }
def CourtCasesUptoSaid : Prop := courtCasesUptoRow.holds Tryd.pinned (OpenSpec.upto courtCasesSpec)

/-- 'bakehouselaw1.PurseActs', WHERE WHAT IT READS IS OF BULK AT MOST 1048576: true; the input reads as it did. -/
def purseActsUptoRow : OpenClaim := { program := "ytajnfkmkombajabdoor", sum := "129319eaa91732a249488156045c64bdb9da3e0d8cf9606c6d3cff8e718e4085", func := "bakehouse/bakehouselaw1.PurseActs", spec := "purseActs", inPlace := ["internal/reflectlite.ValueOf", "(internal/reflectlite.Value).Type", "(internal/reflectlite.Value).IsNil", "internal/reflectlite.TypeOf", "(internal/reflectlite.Value).Elem", "(internal/reflectlite.Value).Set"], unfollowed := true, recurses := true, named := ["bakehouse/api.ErrBound", "bakehouse/api.ErrShort", "bakehouse/api.ErrText", "bakehouse/api.ErrShape", "bakehouse/api.ErrNone", "bakehouse/api.ErrExist", "bakehouse/api.ErrSmall", "bakehouse/api.ErrGone", "bakehouse/api.ErrTurn", "bakehouse/api.ErrOld", "errors.errorType"], plainKeys := false, leaving := true, apart := false, laid := [("errors.errorType", laid_errors_errorType), ("bakehouse/api.ErrText", laid_bakehouse_api_ErrText), ("bakehouse/api.ErrBound", laid_bakehouse_api_ErrBound), ("bakehouse/api.ErrShape", laid_bakehouse_api_ErrShape), ("bakehouse/api.ErrNone", laid_bakehouse_api_ErrNone), ("bakehouse/api.ErrExist", laid_bakehouse_api_ErrExist), ("bakehouse/api.ErrShort", laid_bakehouse_api_ErrShort), ("bakehouse/api.ErrSmall", laid_bakehouse_api_ErrSmall), ("bakehouse/api.ErrGone", laid_bakehouse_api_ErrGone), ("bakehouse/api.ErrTurn", laid_bakehouse_api_ErrTurn), ("bakehouse/api.ErrOld", laid_bakehouse_api_ErrOld)], narrowed := true }
def PurseActsUptoSaid : Prop := purseActsUptoRow.holds Tryd.pinned (OpenSpec.upto purseActsSpec)

/-- 'bakehouselaw1.DrawColumns', WHERE WHAT IT READS IS OF BULK AT MOST 1048576: true; the input reads as it did. -/
def drawColumnsUptoRow : OpenClaim := { program := "ytajnfkmkombajabdoor", sum := "129319eaa91732a249488156045c64bdb9da3e0d8cf9606c6d3cff8e718e4085", func := "bakehouse/bakehouselaw1.DrawColumns", spec := "drawColumns", inPlace := ["internal/reflectlite.ValueOf", "(internal/reflectlite.Value).Type", "(internal/reflectlite.Value).IsNil", "internal/reflectlite.TypeOf", "(internal/reflectlite.Value).Elem", "(internal/reflectlite.Value).Set"], unfollowed := true, recurses := true, named := ["bakehouse/api.ErrShape", "bakehouse/api.ErrBound", "bakehouse/api.ErrNone", "bakehouse/api.ErrText", "bakehouse/api.ErrExist", "bakehouse/api.ErrShort", "bakehouse/api.ErrSmall", "bakehouse/api.ErrGone", "bakehouse/api.ErrTurn", "bakehouse/api.ErrOld", "errors.errorType"], plainKeys := false, leaving := true, apart := false, laid := [("errors.errorType", laid_errors_errorType), ("bakehouse/api.ErrText", laid_bakehouse_api_ErrText), ("bakehouse/api.ErrBound", laid_bakehouse_api_ErrBound), ("bakehouse/api.ErrShape", laid_bakehouse_api_ErrShape), ("bakehouse/api.ErrNone", laid_bakehouse_api_ErrNone), ("bakehouse/api.ErrExist", laid_bakehouse_api_ErrExist), ("bakehouse/api.ErrShort", laid_bakehouse_api_ErrShort), ("bakehouse/api.ErrSmall", laid_bakehouse_api_ErrSmall), ("bakehouse/api.ErrGone", laid_bakehouse_api_ErrGone), ("bakehouse/api.ErrTurn", laid_bakehouse_api_ErrTurn), ("bakehouse/api.ErrOld", laid_bakehouse_api_ErrOld)], narrowed := true }
def DrawColumnsUptoSaid : Prop := drawColumnsUptoRow.holds Tryd.pinned (OpenSpec.upto drawColumnsSpec)

/-- 'bakehouselaw1.PartRounds', WHERE WHAT IT READS IS OF BULK AT MOST 1048576: true; the input reads as it did. -/
def partRoundsUptoRow : OpenClaim := { program := "ytajnfkmkombajabdoor", sum := "129319eaa91732a249488156045c64bdb9da3e0d8cf9606c6d3cff8e718e4085", func := "bakehouse/bakehouselaw1.PartRounds", spec := "partRounds", inPlace := ["internal/reflectlite.ValueOf", "(internal/reflectlite.Value).Type", "(internal/reflectlite.Value).IsNil", "internal/reflectlite.TypeOf", "(internal/reflectlite.Value).Elem", "(internal/reflectlite.Value).Set"], unfollowed := true, recurses := true, named := ["bakehouse/api.ErrBound", "math/bits.divideError", "math/bits.overflowError", "bakehouse/api.ErrText", "bakehouse/api.ErrShape", "bakehouse/api.ErrNone", "bakehouse/api.ErrExist", "bakehouse/api.ErrShort", "bakehouse/api.ErrSmall", "bakehouse/api.ErrGone", "bakehouse/api.ErrTurn", "bakehouse/api.ErrOld", "errors.errorType"], plainKeys := false, leaving := true, apart := false, laid := [("errors.errorType", laid_errors_errorType), ("bakehouse/api.ErrText", laid_bakehouse_api_ErrText), ("bakehouse/api.ErrBound", laid_bakehouse_api_ErrBound), ("bakehouse/api.ErrShape", laid_bakehouse_api_ErrShape), ("bakehouse/api.ErrNone", laid_bakehouse_api_ErrNone), ("bakehouse/api.ErrExist", laid_bakehouse_api_ErrExist), ("bakehouse/api.ErrShort", laid_bakehouse_api_ErrShort), ("bakehouse/api.ErrSmall", laid_bakehouse_api_ErrSmall), ("bakehouse/api.ErrGone", laid_bakehouse_api_ErrGone), ("bakehouse/api.ErrTurn", laid_bakehouse_api_ErrTurn), ("bakehouse/api.ErrOld", laid_bakehouse_api_ErrOld)], narrowed := true }
def PartRoundsUptoSaid : Prop := partRoundsUptoRow.holds Tryd.pinned (OpenSpec.upto partRoundsSpec)

/-- 'bakehouselaw1.PartBends', WHERE WHAT IT READS IS OF BULK AT MOST 1048576: true; the input reads as it did. -/
def partBendsUptoRow : OpenClaim := { program := "ytajnfkmkombajabdoor", sum := "129319eaa91732a249488156045c64bdb9da3e0d8cf9606c6d3cff8e718e4085", func := "bakehouse/bakehouselaw1.PartBends", spec := "partBends", inPlace := ["internal/reflectlite.ValueOf", "(internal/reflectlite.Value).Type", "(internal/reflectlite.Value).IsNil", "internal/reflectlite.TypeOf", "(internal/reflectlite.Value).Elem", "(internal/reflectlite.Value).Set"], unfollowed := true, recurses := true, named := ["bakehouse/api.ErrBound", "math/bits.divideError", "math/bits.overflowError", "bakehouse/api.ErrShape", "bakehouse/api.ErrText", "bakehouse/api.ErrNone", "bakehouse/api.ErrExist", "bakehouse/api.ErrShort", "bakehouse/api.ErrSmall", "bakehouse/api.ErrGone", "bakehouse/api.ErrTurn", "bakehouse/api.ErrOld", "errors.errorType"], plainKeys := false, leaving := true, apart := false, laid := [("errors.errorType", laid_errors_errorType), ("bakehouse/api.ErrText", laid_bakehouse_api_ErrText), ("bakehouse/api.ErrBound", laid_bakehouse_api_ErrBound), ("bakehouse/api.ErrShape", laid_bakehouse_api_ErrShape), ("bakehouse/api.ErrNone", laid_bakehouse_api_ErrNone), ("bakehouse/api.ErrExist", laid_bakehouse_api_ErrExist), ("bakehouse/api.ErrShort", laid_bakehouse_api_ErrShort), ("bakehouse/api.ErrSmall", laid_bakehouse_api_ErrSmall), ("bakehouse/api.ErrGone", laid_bakehouse_api_ErrGone), ("bakehouse/api.ErrTurn", laid_bakehouse_api_ErrTurn), ("bakehouse/api.ErrOld", laid_bakehouse_api_ErrOld)], narrowed := true }
def PartBendsUptoSaid : Prop := partBendsUptoRow.holds Tryd.pinned (OpenSpec.upto partBendsSpec)

/-- 'bakehouselaw2.RightBakers', WHERE WHAT IT READS IS OF BULK AT MOST 1048576: true; the input reads as it did. -/
def rightBakersUptoRow : OpenClaim := { program := "ytajnfkmkombajabdoor", sum := "129319eaa91732a249488156045c64bdb9da3e0d8cf9606c6d3cff8e718e4085", func := "bakehouse/bakehouselaw2.RightBakers", spec := "rightBakers", inPlace := ["internal/reflectlite.ValueOf", "(internal/reflectlite.Value).Type", "(internal/reflectlite.Value).IsNil", "internal/reflectlite.TypeOf", "(internal/reflectlite.Value).Elem", "(internal/reflectlite.Value).Set"], unfollowed := true, recurses := true, named := ["bakehouse/api.ErrBound", "bakehouse/api.ErrShape", "bakehouse/api.ErrNone", "bakehouse/api.ErrText", "bakehouse/api.ErrExist", "bakehouse/api.ErrShort", "bakehouse/api.ErrSmall", "bakehouse/api.ErrGone", "bakehouse/api.ErrTurn", "bakehouse/api.ErrOld", "errors.errorType"], plainKeys := false, leaving := true, apart := false, laid := [("errors.errorType", laid_errors_errorType), ("bakehouse/api.ErrText", laid_bakehouse_api_ErrText), ("bakehouse/api.ErrBound", laid_bakehouse_api_ErrBound), ("bakehouse/api.ErrShape", laid_bakehouse_api_ErrShape), ("bakehouse/api.ErrNone", laid_bakehouse_api_ErrNone), ("bakehouse/api.ErrExist", laid_bakehouse_api_ErrExist), ("bakehouse/api.ErrShort", laid_bakehouse_api_ErrShort), ("bakehouse/api.ErrSmall", laid_bakehouse_api_ErrSmall), ("bakehouse/api.ErrGone", laid_bakehouse_api_ErrGone), ("bakehouse/api.ErrTurn", laid_bakehouse_api_ErrTurn), ("bakehouse/api.ErrOld", laid_bakehouse_api_ErrOld)], narrowed := true }
def RightBakersUptoSaid : Prop := rightBakersUptoRow.holds Tryd.pinned (OpenSpec.upto rightBakersSpec)

/-- 'bakehouselaw2.IssueRates', WHERE WHAT IT READS IS OF BULK AT MOST 1048576: true; the input reads as it did. -/
def issueRatesUptoRow : OpenClaim := { program := "ytajnfkmkombajabdoor", sum := "129319eaa91732a249488156045c64bdb9da3e0d8cf9606c6d3cff8e718e4085", func := "bakehouse/bakehouselaw2.IssueRates", spec := "issueRates", inPlace := ["internal/reflectlite.ValueOf", "(internal/reflectlite.Value).Type", "(internal/reflectlite.Value).IsNil", "internal/reflectlite.TypeOf", "(internal/reflectlite.Value).Elem", "(internal/reflectlite.Value).Set"], unfollowed := true, recurses := true, named := ["bakehouse/api.ErrBound", "math/bits.divideError", "math/bits.overflowError", "bakehouse/api.ErrShape", "bakehouse/api.ErrText", "bakehouse/api.ErrNone", "bakehouse/api.ErrExist", "bakehouse/api.ErrShort", "bakehouse/api.ErrSmall", "bakehouse/api.ErrGone", "bakehouse/api.ErrTurn", "bakehouse/api.ErrOld", "errors.errorType"], plainKeys := false, leaving := true, apart := false, laid := [("errors.errorType", laid_errors_errorType), ("bakehouse/api.ErrText", laid_bakehouse_api_ErrText), ("bakehouse/api.ErrBound", laid_bakehouse_api_ErrBound), ("bakehouse/api.ErrShape", laid_bakehouse_api_ErrShape), ("bakehouse/api.ErrNone", laid_bakehouse_api_ErrNone), ("bakehouse/api.ErrExist", laid_bakehouse_api_ErrExist), ("bakehouse/api.ErrShort", laid_bakehouse_api_ErrShort), ("bakehouse/api.ErrSmall", laid_bakehouse_api_ErrSmall), ("bakehouse/api.ErrGone", laid_bakehouse_api_ErrGone), ("bakehouse/api.ErrTurn", laid_bakehouse_api_ErrTurn), ("bakehouse/api.ErrOld", laid_bakehouse_api_ErrOld)], narrowed := true }
def IssueRatesUptoSaid : Prop := issueRatesUptoRow.holds Tryd.pinned (OpenSpec.upto issueRatesSpec)

/-- 'bakehouselaw1.PoolActs', WHERE WHAT IT READS IS OF BULK AT MOST 1048576: true; the input reads as it did. -/
def poolActsUptoRow : OpenClaim := { program := "ytajnfkmkombajabdoor", sum := "129319eaa91732a249488156045c64bdb9da3e0d8cf9606c6d3cff8e718e4085", func := "bakehouse/bakehouselaw1.PoolActs", spec := "poolActs", inPlace := ["internal/reflectlite.ValueOf", "(internal/reflectlite.Value).Type", "(internal/reflectlite.Value).IsNil", "internal/reflectlite.TypeOf", "(internal/reflectlite.Value).Elem", "(internal/reflectlite.Value).Set"], unfollowed := true, recurses := true, named := ["bakehouse/api.ErrGone", "bakehouse/api.ErrBound", "bakehouse/api.ErrSmall", "math/bits.divideError", "math/bits.overflowError", "bakehouse/api.ErrNone", "bakehouse/api.ErrText", "bakehouse/api.ErrShape", "bakehouse/api.ErrExist", "bakehouse/api.ErrShort", "bakehouse/api.ErrTurn", "bakehouse/api.ErrOld", "errors.errorType"], plainKeys := false, leaving := true, apart := false, laid := [("errors.errorType", laid_errors_errorType), ("bakehouse/api.ErrText", laid_bakehouse_api_ErrText), ("bakehouse/api.ErrBound", laid_bakehouse_api_ErrBound), ("bakehouse/api.ErrShape", laid_bakehouse_api_ErrShape), ("bakehouse/api.ErrNone", laid_bakehouse_api_ErrNone), ("bakehouse/api.ErrExist", laid_bakehouse_api_ErrExist), ("bakehouse/api.ErrShort", laid_bakehouse_api_ErrShort), ("bakehouse/api.ErrSmall", laid_bakehouse_api_ErrSmall), ("bakehouse/api.ErrGone", laid_bakehouse_api_ErrGone), ("bakehouse/api.ErrTurn", laid_bakehouse_api_ErrTurn), ("bakehouse/api.ErrOld", laid_bakehouse_api_ErrOld)], narrowed := true }
def PoolActsUptoSaid : Prop := poolActsUptoRow.holds Tryd.pinned (OpenSpec.upto poolActsSpec)

/-- 'bakehouselaw3.SideRights', WHERE WHAT IT READS IS OF BULK AT MOST 1048576: true; the input reads as it did. -/
def sideRightsUptoRow : OpenClaim := { program := "ytajnfkmkombajabdoor", sum := "129319eaa91732a249488156045c64bdb9da3e0d8cf9606c6d3cff8e718e4085", func := "bakehouse/bakehouselaw3.SideRights", spec := "sideRights", inPlace := ["(*sync.WaitGroup).Go", "(*sync.WaitGroup).Add", "internal/race.ReleaseMerge", "internal/race.Disable", "internal/race.Enable", "internal/synctest.IsInBubble", "internal/synctest.Associate[sync.WaitGroup]", "sync.fatal", "sync/atomic.OrUint64", "sync/atomic.AddUint64", "internal/race.Read", "sync/atomic.LoadUint64", "sync/atomic.StoreUint64", "internal/synctest.Disassociate[sync.WaitGroup]", "sync.runtime_Semrelease", "(*sync.WaitGroup).Go$1", "(*sync.WaitGroup).Go$1$1", "(*sync.WaitGroup).Done", "(*sync.WaitGroup).Wait", "internal/race.Acquire", "internal/synctest.IsAssociated[sync.WaitGroup]", "sync/atomic.CompareAndSwapUint64", "internal/race.Write", "sync.runtime_SemacquireWaitGroup", "internal/reflectlite.ValueOf", "(internal/reflectlite.Value).Type", "(internal/reflectlite.Value).IsNil", "internal/reflectlite.TypeOf", "(internal/reflectlite.Value).Elem", "(internal/reflectlite.Value).Set"], unfollowed := true, recurses := true, named := ["bakehouse/api.ErrShape", "bakehouse/api.ErrBound", "bakehouse/api.ErrNone", "errors.errorType", "bakehouse/api.ErrText", "bakehouse/api.ErrExist", "bakehouse/api.ErrShort", "bakehouse/api.ErrSmall", "bakehouse/api.ErrGone", "bakehouse/api.ErrTurn", "bakehouse/api.ErrOld"], plainKeys := false, leaving := true, apart := false, laid := [("errors.errorType", laid_errors_errorType), ("bakehouse/api.ErrText", laid_bakehouse_api_ErrText), ("bakehouse/api.ErrBound", laid_bakehouse_api_ErrBound), ("bakehouse/api.ErrShape", laid_bakehouse_api_ErrShape), ("bakehouse/api.ErrNone", laid_bakehouse_api_ErrNone), ("bakehouse/api.ErrExist", laid_bakehouse_api_ErrExist), ("bakehouse/api.ErrShort", laid_bakehouse_api_ErrShort), ("bakehouse/api.ErrSmall", laid_bakehouse_api_ErrSmall), ("bakehouse/api.ErrGone", laid_bakehouse_api_ErrGone), ("bakehouse/api.ErrTurn", laid_bakehouse_api_ErrTurn), ("bakehouse/api.ErrOld", laid_bakehouse_api_ErrOld)], narrowed := true }
def SideRightsUptoSaid : Prop := sideRightsUptoRow.holds Tryd.pinned (OpenSpec.upto sideRightsSpec)

/-- 'bakehouselaw2.StakeSums', WHERE WHAT IT READS IS OF BULK AT MOST 1048576: true; the input reads as it did. -/
def stakeSumsUptoRow : OpenClaim := { program := "ytajnfkmkombajabdoor", sum := "129319eaa91732a249488156045c64bdb9da3e0d8cf9606c6d3cff8e718e4085", func := "bakehouse/bakehouselaw2.StakeSums", spec := "stakeSums", inPlace := ["maps.clone"], recurses := true, named := ["bakehouse/api.ErrBound", "bakehouse/api.ErrExist", "bakehouse/api.ErrNone", "bakehouse/api.ErrGone", "bakehouse/api.ErrSmall", "math/bits.divideError", "math/bits.overflowError", "bakehouse/api.ErrShort"], plainKeys := false, apart := false, laid := [("bakehouse/api.ErrBound", laid_bakehouse_api_ErrBound), ("bakehouse/api.ErrNone", laid_bakehouse_api_ErrNone), ("bakehouse/api.ErrExist", laid_bakehouse_api_ErrExist), ("bakehouse/api.ErrShort", laid_bakehouse_api_ErrShort), ("bakehouse/api.ErrSmall", laid_bakehouse_api_ErrSmall), ("bakehouse/api.ErrGone", laid_bakehouse_api_ErrGone)], narrowed := true }
def StakeSumsUptoSaid : Prop := stakeSumsUptoRow.holds Tryd.pinned (OpenSpec.upto stakeSumsSpec)

end Rows
end Go.Proofs.YtajnfkmkombajabDoor
