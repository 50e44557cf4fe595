/-
  NARROWER THAN 'FOR EVERY INPUT', by the rows' own cells (each row's printed sentence says how): StakeWaits: laid · ChainLater: laid.
  DERIVED. THE GIVEN ROWS OF THIS SEAT. 2 by the template 'for every input the law returns true; each argument reads behind the call as it read before'; 0 by the template 'total and deterministic' (their statements: YtajnfkmkombajacDoorTotals.lean).
  GIVEN WITH THE SEED: the statements are not yours to turn. If you find one false, say at which input.
  Laid BY PROGRAM, IN A SANDBOX (cutbox-rows.mjs): the forced cells as the released guide's own fill.sh prints them over the translation d56cefbbbb50f748… (all of the seat's roots in one cut). By AI agents, Wed Nov 11 2026. No macro, syntax, notation, axiom, sorry.
-/
import Derived.Test.YtajnfkmkombajacDoorChecked
import GoSem.Claim
import GoSem.ClaimJoined
import GoSem.ClaimMapViews
import Derived.JoinedTies
import Derived.KernelRfl
namespace Go.Proofs.YtajnfkmkombajacDoor
/- THE CELL 'sum', in the pinned program and in every row, IS THE sha256 OF THE DUMP (.gsa) THAT YtajnfkmkombajacDoorProg.lean LOADS. Nothing in Lean hashes anything: it is a label: what it is worth is what the hold of that sum in a sandbox is worth. -/
noncomputable def Tryd.pinned : Pinned := { name := "ytajnfkmkombajacdoor", sum := "d56cefbbbb50f74842c4c016b7f9302115bd2cfd196d1aa8a7cc261289ae31c9", checked := Tryd.checked }
namespace Rows
def none {H : Type} : Left H := { results := [], args := [] }

/- WHAT THE LISTED PACKAGE-LEVEL VARIABLES READ AS WHEN THE CALL BEGINS. Each datum BY PROGRAM (the guide's laid-datum.mjs) off the statement by which the dump's own 'gosem.cut.vars' lays the variable. In a bare row this is a premise. The card (YtajnfkmkombajacDoorCards.lean) ties it to the program's text. -/
def laid_errors_errorType {H : Type} : DataW H := .iface "internal/reflectlite.rtype" (.agg [.ptr (.lit (.string [101, 114, 114, 111, 114]))])
def laid_bakehouse_api_ErrText {H : Type} : DataW H := .iface "*errors.errorString" (.ptr (.agg [.lit (.string [98, 97, 107, 101, 104, 111, 117, 115, 101, 58, 32, 116, 101, 120, 116])]))
def laid_bakehouse_api_ErrBound {H : Type} : DataW H := .iface "*errors.errorString" (.ptr (.agg [.lit (.string [98, 97, 107, 101, 104, 111, 117, 115, 101, 58, 32, 98, 111, 117, 110, 100])]))
def laid_bakehouse_api_ErrShape {H : Type} : DataW H := .iface "*errors.errorString" (.ptr (.agg [.lit (.string [98, 97, 107, 101, 104, 111, 117, 115, 101, 58, 32, 115, 104, 97, 112, 101])]))
def laid_bakehouse_api_ErrNone {H : Type} : DataW H := .iface "*errors.errorString" (.ptr (.agg [.lit (.string [98, 97, 107, 101, 104, 111, 117, 115, 101, 58, 32, 110, 111, 110, 101])]))
def laid_bakehouse_api_ErrExist {H : Type} : DataW H := .iface "*errors.errorString" (.ptr (.agg [.lit (.string [98, 97, 107, 101, 104, 111, 117, 115, 101, 58, 32, 101, 120, 105, 115, 116])]))
def laid_bakehouse_api_ErrShort {H : Type} : DataW H := .iface "*errors.errorString" (.ptr (.agg [.lit (.string [98, 97, 107, 101, 104, 111, 117, 115, 101, 58, 32, 115, 104, 111, 114, 116])]))
def laid_bakehouse_api_ErrSmall {H : Type} : DataW H := .iface "*errors.errorString" (.ptr (.agg [.lit (.string [98, 97, 107, 101, 104, 111, 117, 115, 101, 58, 32, 115, 109, 97, 108, 108])]))
def laid_bakehouse_api_ErrGone {H : Type} : DataW H := .iface "*errors.errorString" (.ptr (.agg [.lit (.string [98, 97, 107, 101, 104, 111, 117, 115, 101, 58, 32, 103, 111, 110, 101])]))
def laid_bakehouse_api_ErrTurn {H : Type} : DataW H := .iface "*errors.errorString" (.ptr (.agg [.lit (.string [98, 97, 107, 101, 104, 111, 117, 115, 101, 58, 32, 116, 117, 114, 110])]))
def laid_bakehouse_api_ErrOld {H : Type} : DataW H := .iface "*errors.errorString" (.ptr (.agg [.lit (.string [98, 97, 107, 101, 104, 111, 117, 115, 101, 58, 32, 111, 108, 100])]))

/-- 'bakehouselaw2.StakeWaits': WHATEVER THE INPUT: true; the input reads as it did. -/
def stakeWaitsSpec : ChangeSpec := { name := "stakeWaits", fn := fun _ => fun
  | [d1, d2, d3, d4, d5] => { results := [.lit (.bool true)], args := [d1, d2, d3, d4, d5] }
  | _ => none }
def stakeWaitsRow : OpenClaim := { program := "ytajnfkmkombajacdoor", sum := "d56cefbbbb50f74842c4c016b7f9302115bd2cfd196d1aa8a7cc261289ae31c9", func := "bakehouse/bakehouselaw2.StakeWaits", spec := "stakeWaits", inPlace := ["maps.clone", "internal/reflectlite.ValueOf", "(internal/reflectlite.Value).Type", "(internal/reflectlite.Value).IsNil", "internal/reflectlite.TypeOf", "(internal/reflectlite.Value).Elem", "(internal/reflectlite.Value).Set"], unfollowed := true, recurses := true, named := ["bakehouse/api.ErrBound", "bakehouse/api.ErrExist", "bakehouse/api.ErrNone", "bakehouse/api.ErrGone", "bakehouse/api.ErrSmall", "math/bits.divideError", "math/bits.overflowError", "bakehouse/api.ErrShort", "bakehouse/api.ErrText", "bakehouse/api.ErrShape", "bakehouse/api.ErrTurn", "bakehouse/api.ErrOld", "errors.errorType"], plainKeys := false, apart := false, laid := [("errors.errorType", laid_errors_errorType), ("bakehouse/api.ErrText", laid_bakehouse_api_ErrText), ("bakehouse/api.ErrBound", laid_bakehouse_api_ErrBound), ("bakehouse/api.ErrShape", laid_bakehouse_api_ErrShape), ("bakehouse/api.ErrNone", laid_bakehouse_api_ErrNone), ("bakehouse/api.ErrExist", laid_bakehouse_api_ErrExist), ("bakehouse/api.ErrShort", laid_bakehouse_api_ErrShort), ("bakehouse/api.ErrSmall", laid_bakehouse_api_ErrSmall), ("bakehouse/api.ErrGone", laid_bakehouse_api_ErrGone), ("bakehouse/api.ErrTurn", laid_bakehouse_api_ErrTurn), ("bakehouse/api.ErrOld", laid_bakehouse_api_ErrOld)] }
def StakeWaitsSaid : Prop := stakeWaitsRow.holds Tryd.pinned (OpenSpec.ofChange stakeWaitsSpec)

/-- ITS FALSE NEIGHBOUR: 'it returns false'. Refute it at one input. -/
def stakeWaitsWrong : ChangeSpec := { name := "stakeWaits", fn := fun _ => fun
  | [d1, d2, d3, d4, d5] => { results := [.lit (.bool false)], args := [d1, d2, d3, d4, d5] }
  | _ => none }
def StakeWaitsWrongFalsely : Prop := stakeWaitsRow.holds Tryd.pinned (OpenSpec.ofChange stakeWaitsWrong)

/-- 'bakehouselaw3.ChainLater': WHATEVER THE INPUT: true; the input reads as it did. -/
def chainLaterSpec : ChangeSpec := { name := "chainLater", fn := fun _ => fun
  | [d1, d2, d3, d4, d5] => { results := [.lit (.bool true)], args := [d1, d2, d3, d4, d5] }
  | _ => none }
def chainLaterRow : OpenClaim := { program := "ytajnfkmkombajacdoor", sum := "d56cefbbbb50f74842c4c016b7f9302115bd2cfd196d1aa8a7cc261289ae31c9", func := "bakehouse/bakehouselaw3.ChainLater", spec := "chainLater", unfollowed := true, recurses := true, named := ["bakehouse/api.ErrBound", "bakehouse/api.ErrExist", "bakehouse/api.ErrShort", "bakehouse/api.ErrNone", "bakehouse/api.ErrGone", "bakehouse/api.ErrSmall", "math/bits.divideError", "math/bits.overflowError", "bakehouse/api.ErrShape", "bakehouse/api.ErrTurn"], plainKeys := false, apart := false, laid := [("bakehouse/api.ErrBound", laid_bakehouse_api_ErrBound), ("bakehouse/api.ErrShape", laid_bakehouse_api_ErrShape), ("bakehouse/api.ErrNone", laid_bakehouse_api_ErrNone), ("bakehouse/api.ErrExist", laid_bakehouse_api_ErrExist), ("bakehouse/api.ErrShort", laid_bakehouse_api_ErrShort), ("bakehouse/api.ErrSmall", laid_bakehouse_api_ErrSmall), ("bakehouse/api.ErrGone", laid_bakehouse_api_ErrGone), ("bakehouse/api.ErrTurn", laid_bakehouse_api_ErrTurn)] }
def ChainLaterSaid : Prop := chainLaterRow.holds Tryd.pinned (OpenSpec.ofChange chainLaterSpec)

/-- ITS FALSE NEIGHBOUR: 'it returns false'. Refute it at one input. -/
def chainLaterWrong : ChangeSpec := { name := "chainLater", fn := fun _ => fun
  | [d1, d2, d3, d4, d5] => { results := [.lit (.bool false)], args := [d1, d2, d3, d4, d5] }
  | _ => none }
def ChainLaterWrongFalsely : Prop := chainLaterRow.holds Tryd.pinned (OpenSpec.ofChange chainLaterWrong)

/- THE SECOND FORM. 'bulk': how many values and letters a reading holds, each counted each time it is reached (what is shared counts as often as it is met; a slice's spare places count too). A statement '..UptoSaid' is the law's where the arguments, and the package variables that the reading takes, are together of bulk at most 1048576: NARROWER than '..Said'. Prove '..Said' where nothing that the law and all that it calls make is longer than what came in: it says more and counts as full. Else prove '..UptoSaid'. A law counts once. -/
mutual
def uptoBulk {H : Type} : DataW H → Nat
  | .lit (.string bytes) => bytes.length + 1
  | .lit _ => 1
  | .nil => 1
  | .ptr d => uptoBulk d + 1
  | .slice elems spare => uptoBulkAll elems + uptoBulkAll spare + 1
  | .agg parts => uptoBulkAll parts + 1
  | .iface _ d => uptoBulk d + 1
  | .map entries => uptoBulkEntries entries + 1
  | .held _ => 1
def uptoBulkAll {H : Type} : List (DataW H) → Nat
  | [] => 0
  | d :: r => uptoBulk d + uptoBulkAll r
def uptoBulkEntries {H : Type} : List (Lit × DataW H) → Nat
  | [] => 0
  | x :: r => uptoBulkEntry x + uptoBulkEntries r
def uptoBulkEntry {H : Type} : Lit × DataW H → Nat
  | (.string bytes, d) => bytes.length + uptoBulk d + 1
  | (_, d) => uptoBulk d + 1
 end
def uptoSmall : (H : Type) → List (DataW H) → Bool := fun _ ds => decide (uptoBulkAll ds ≤ 1048576)
def OpenSpec.upto (s : _root_.Go.ChangeSpec) : _root_.Go.OpenSpec := { _root_.Go.OpenSpec.ofChange s with cond := some uptoSmall }

/-- 'bakehouselaw2.StakeWaits', WHERE WHAT IT READS IS OF BULK AT MOST 1048576: true; the input reads as it did. -/
def stakeWaitsUptoRow : OpenClaim := { program := "ytajnfkmkombajacdoor", sum := "d56cefbbbb50f74842c4c016b7f9302115bd2cfd196d1aa8a7cc261289ae31c9", func := "bakehouse/bakehouselaw2.StakeWaits", spec := "stakeWaits", inPlace := ["maps.clone", "internal/reflectlite.ValueOf", "(internal/reflectlite.Value).Type", "(internal/reflectlite.Value).IsNil", "internal/reflectlite.TypeOf", "(internal/reflectlite.Value).Elem", "(internal/reflectlite.Value).Set"], unfollowed := true, recurses := true, named := ["bakehouse/api.ErrBound", "bakehouse/api.ErrExist", "bakehouse/api.ErrNone", "bakehouse/api.ErrGone", "bakehouse/api.ErrSmall", "math/bits.divideError", "math/bits.overflowError", "bakehouse/api.ErrShort", "bakehouse/api.ErrText", "bakehouse/api.ErrShape", "bakehouse/api.ErrTurn", "bakehouse/api.ErrOld", "errors.errorType"], plainKeys := false, apart := false, laid := [("errors.errorType", laid_errors_errorType), ("bakehouse/api.ErrText", laid_bakehouse_api_ErrText), ("bakehouse/api.ErrBound", laid_bakehouse_api_ErrBound), ("bakehouse/api.ErrShape", laid_bakehouse_api_ErrShape), ("bakehouse/api.ErrNone", laid_bakehouse_api_ErrNone), ("bakehouse/api.ErrExist", laid_bakehouse_api_ErrExist), ("bakehouse/api.ErrShort", laid_bakehouse_api_ErrShort), ("bakehouse/api.ErrSmall", laid_bakehouse_api_ErrSmall), ("bakehouse/api.ErrGone", laid_bakehouse_api_ErrGone), ("bakehouse/api.ErrTurn", laid_bakehouse_api_ErrTurn), ("bakehouse/api.ErrOld", laid_bakehouse_api_ErrOld)], narrowed := true }
def StakeWaitsUptoSaid : Prop := stakeWaitsUptoRow.holds Tryd.pinned (OpenSpec.upto stakeWaitsSpec)

/-- 'bakehouselaw3.ChainLater', WHERE WHAT IT READS IS OF BULK AT MOST 1048576: true; the input reads as it did. -/
def chainLaterUptoRow : OpenClaim := { program := "ytajnfkmkombajacdoor", sum := "d56cefbbbb50f74842c4c016b7f9302115bd2cfd196d1aa8a7cc261289ae31c9", func := "bakehouse/bakehouselaw3.ChainLater", spec := "chainLater", unfollowed := true, recurses := true, named := ["bakehouse/api.ErrBound", "bakehouse/api.ErrExist", "bakehouse/api.ErrShort", "bakehouse/api.ErrNone", "bakehouse/api.ErrGone", "bakehouse/api.ErrSmall", "math/bits.divideError", "math/bits.overflowError", "bakehouse/api.ErrShape", "bakehouse/api.ErrTurn"], plainKeys := false, apart := false, laid := [("bakehouse/api.ErrBound", laid_bakehouse_api_ErrBound), ("bakehouse/api.ErrShape", laid_bakehouse_api_ErrShape), ("bakehouse/api.ErrNone", laid_bakehouse_api_ErrNone), ("bakehouse/api.ErrExist", laid_bakehouse_api_ErrExist), ("bakehouse/api.ErrShort", laid_bakehouse_api_ErrShort), ("bakehouse/api.ErrSmall", laid_bakehouse_api_ErrSmall), ("bakehouse/api.ErrGone", laid_bakehouse_api_ErrGone), ("bakehouse/api.ErrTurn", laid_bakehouse_api_ErrTurn)], narrowed := true }
def ChainLaterUptoSaid : Prop := chainLaterUptoRow.holds Tryd.pinned (OpenSpec.upto chainLaterSpec)

end Rows
end Go.Proofs.YtajnfkmkombajacDoor
