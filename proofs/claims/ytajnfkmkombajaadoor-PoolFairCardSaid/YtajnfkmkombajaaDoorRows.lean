/-
  NARROWER THAN 'FOR EVERY INPUT', by the rows' own cells (each row's printed sentence says how): PurseSums: laid · DrawJust: laid · PartBack: laid · PartBetween: laid · RightOnly: laid · IssueFalls: laid · PoolAlone: laid · Names: laid · LotsNext: laid · PoolFair: laid.
  DERIVED. THE GIVEN ROWS OF THIS SEAT. 10 by the template 'for every input the law returns true; each argument reads behind the call as it read before'; 0 by the template 'total and deterministic' (their statements: YtajnfkmkombajaaDoorTotals.lean).
  GIVEN WITH THE SEED: the statements are not yours to turn. If you find one false, say at which input.
  Laid BY PROGRAM, IN A SANDBOX (cutbox-rows.mjs): the forced cells as the released guide's own fill.sh prints them over the translation 08746b9d275fc882… (all of the seat's roots in one cut). By AI agents, Wed Nov 11 2026. No macro, syntax, notation, axiom, sorry.
-/
import Derived.Test.YtajnfkmkombajaaDoorChecked
import GoSem.Claim
import GoSem.ClaimJoined
import GoSem.ClaimMapViews
import Derived.JoinedTies
import Derived.KernelRfl
namespace Go.Proofs.YtajnfkmkombajaaDoor
/- THE CELL 'sum', in the pinned program and in every row, IS THE sha256 OF THE DUMP (.gsa) THAT YtajnfkmkombajaaDoorProg.lean LOADS. Nothing in Lean hashes anything: it is a label: what it is worth is what the hold of that sum in a sandbox is worth. -/
noncomputable def Tryd.pinned : Pinned := { name := "ytajnfkmkombajaadoor", sum := "08746b9d275fc8821859c1553056ea3f808a50ec91896b61e163acb6093be3aa", checked := Tryd.checked }
namespace Rows
def none {H : Type} : Left H := { results := [], args := [] }

/- WHAT THE LISTED PACKAGE-LEVEL VARIABLES READ AS WHEN THE CALL BEGINS. Each datum BY PROGRAM (the guide's laid-datum.mjs) off the statement by which the dump's own 'gosem.cut.vars' lays the variable. In a bare row this is a premise. The card (YtajnfkmkombajaaDoorCards.lean) ties it to the program's text. -/
def laid_bakehouse_api_ErrBound {H : Type} : DataW H := .iface "*errors.errorString" (.ptr (.agg [.lit (.string [98, 97, 107, 101, 104, 111, 117, 115, 101, 58, 32, 98, 111, 117, 110, 100])]))
def laid_bakehouse_api_ErrShort {H : Type} : DataW H := .iface "*errors.errorString" (.ptr (.agg [.lit (.string [98, 97, 107, 101, 104, 111, 117, 115, 101, 58, 32, 115, 104, 111, 114, 116])]))
def laid_bakehouse_api_ErrShape {H : Type} : DataW H := .iface "*errors.errorString" (.ptr (.agg [.lit (.string [98, 97, 107, 101, 104, 111, 117, 115, 101, 58, 32, 115, 104, 97, 112, 101])]))
def laid_bakehouse_api_ErrNone {H : Type} : DataW H := .iface "*errors.errorString" (.ptr (.agg [.lit (.string [98, 97, 107, 101, 104, 111, 117, 115, 101, 58, 32, 110, 111, 110, 101])]))
def laid_bakehouse_api_ErrSmall {H : Type} : DataW H := .iface "*errors.errorString" (.ptr (.agg [.lit (.string [98, 97, 107, 101, 104, 111, 117, 115, 101, 58, 32, 115, 109, 97, 108, 108])]))
def laid_bakehouse_api_ErrGone {H : Type} : DataW H := .iface "*errors.errorString" (.ptr (.agg [.lit (.string [98, 97, 107, 101, 104, 111, 117, 115, 101, 58, 32, 103, 111, 110, 101])]))
def laid_errors_errorType {H : Type} : DataW H := .iface "internal/reflectlite.rtype" (.agg [.ptr (.lit (.string [101, 114, 114, 111, 114]))])
def laid_bakehouse_api_ErrText {H : Type} : DataW H := .iface "*errors.errorString" (.ptr (.agg [.lit (.string [98, 97, 107, 101, 104, 111, 117, 115, 101, 58, 32, 116, 101, 120, 116])]))
def laid_bakehouse_api_ErrExist {H : Type} : DataW H := .iface "*errors.errorString" (.ptr (.agg [.lit (.string [98, 97, 107, 101, 104, 111, 117, 115, 101, 58, 32, 101, 120, 105, 115, 116])]))
def laid_bakehouse_api_ErrTurn {H : Type} : DataW H := .iface "*errors.errorString" (.ptr (.agg [.lit (.string [98, 97, 107, 101, 104, 111, 117, 115, 101, 58, 32, 116, 117, 114, 110])]))
def laid_bakehouse_api_ErrOld {H : Type} : DataW H := .iface "*errors.errorString" (.ptr (.agg [.lit (.string [98, 97, 107, 101, 104, 111, 117, 115, 101, 58, 32, 111, 108, 100])]))

/-- 'bakehouselaw1.PurseSums': WHATEVER THE INPUT: true; the input reads as it did. -/
def purseSumsSpec : ChangeSpec := { name := "purseSums", fn := fun _ => fun
  | [d1, d2] => { results := [.lit (.bool true)], args := [d1, d2] }
  | _ => none }
def purseSumsRow : OpenClaim := { program := "ytajnfkmkombajaadoor", sum := "08746b9d275fc8821859c1553056ea3f808a50ec91896b61e163acb6093be3aa", func := "bakehouse/bakehouselaw1.PurseSums", spec := "purseSums", named := ["bakehouse/api.ErrBound", "bakehouse/api.ErrShort"], apart := false, laid := [("bakehouse/api.ErrBound", laid_bakehouse_api_ErrBound), ("bakehouse/api.ErrShort", laid_bakehouse_api_ErrShort)] }
def PurseSumsSaid : Prop := purseSumsRow.holds Tryd.pinned (OpenSpec.ofChange purseSumsSpec)

/-- ITS FALSE NEIGHBOUR: 'it returns false'. Refute it at one input. -/
def purseSumsWrong : ChangeSpec := { name := "purseSums", fn := fun _ => fun
  | [d1, d2] => { results := [.lit (.bool false)], args := [d1, d2] }
  | _ => none }
def PurseSumsWrongFalsely : Prop := purseSumsRow.holds Tryd.pinned (OpenSpec.ofChange purseSumsWrong)

/-- 'bakehouselaw1.DrawJust': WHATEVER THE INPUT: true; the input reads as it did. -/
def drawJustSpec : ChangeSpec := { name := "drawJust", fn := fun _ => fun
  | [d] => { results := [.lit (.bool true)], args := [d] }
  | _ => none }
def drawJustRow : OpenClaim := { program := "ytajnfkmkombajaadoor", sum := "08746b9d275fc8821859c1553056ea3f808a50ec91896b61e163acb6093be3aa", func := "bakehouse/bakehouselaw1.DrawJust", spec := "drawJust", unfollowed := true, recurses := true, named := ["bakehouse/api.ErrShape", "bakehouse/api.ErrBound", "bakehouse/api.ErrNone"], apart := false, laid := [("bakehouse/api.ErrBound", laid_bakehouse_api_ErrBound), ("bakehouse/api.ErrShape", laid_bakehouse_api_ErrShape), ("bakehouse/api.ErrNone", laid_bakehouse_api_ErrNone)] }
def DrawJustSaid : Prop := drawJustRow.holds Tryd.pinned (OpenSpec.ofChange drawJustSpec)

/-- ITS FALSE NEIGHBOUR: 'it returns false'. Refute it at one input. -/
def drawJustWrong : ChangeSpec := { name := "drawJust", fn := fun _ => fun
  | [d] => { results := [.lit (.bool false)], args := [d] }
  | _ => none }
def DrawJustWrongFalsely : Prop := drawJustRow.holds Tryd.pinned (OpenSpec.ofChange drawJustWrong)

/-- 'bakehouselaw1.PartBack': WHATEVER THE INPUT: true; the input reads as it did. -/
def partBackSpec : ChangeSpec := { name := "partBack", fn := fun _ => fun
  | [d1, d2, d3] => { results := [.lit (.bool true)], args := [d1, d2, d3] }
  | _ => none }
def partBackRow : OpenClaim := { program := "ytajnfkmkombajaadoor", sum := "08746b9d275fc8821859c1553056ea3f808a50ec91896b61e163acb6093be3aa", func := "bakehouse/bakehouselaw1.PartBack", spec := "partBack", named := ["bakehouse/api.ErrBound", "math/bits.divideError", "math/bits.overflowError"], apart := false, laid := [("bakehouse/api.ErrBound", laid_bakehouse_api_ErrBound)] }
def PartBackSaid : Prop := partBackRow.holds Tryd.pinned (OpenSpec.ofChange partBackSpec)

/-- ITS FALSE NEIGHBOUR: 'it returns false'. Refute it at one input. -/
def partBackWrong : ChangeSpec := { name := "partBack", fn := fun _ => fun
  | [d1, d2, d3] => { results := [.lit (.bool false)], args := [d1, d2, d3] }
  | _ => none }
def PartBackWrongFalsely : Prop := partBackRow.holds Tryd.pinned (OpenSpec.ofChange partBackWrong)

/-- 'bakehouselaw1.PartBetween': WHATEVER THE INPUT: true; the input reads as it did. -/
def partBetweenSpec : ChangeSpec := { name := "partBetween", fn := fun _ => fun
  | [d1, d2, d3] => { results := [.lit (.bool true)], args := [d1, d2, d3] }
  | _ => none }
def partBetweenRow : OpenClaim := { program := "ytajnfkmkombajaadoor", sum := "08746b9d275fc8821859c1553056ea3f808a50ec91896b61e163acb6093be3aa", func := "bakehouse/bakehouselaw1.PartBetween", spec := "partBetween", named := ["bakehouse/api.ErrBound", "math/bits.divideError", "math/bits.overflowError", "bakehouse/api.ErrShape"], apart := false, laid := [("bakehouse/api.ErrBound", laid_bakehouse_api_ErrBound), ("bakehouse/api.ErrShape", laid_bakehouse_api_ErrShape)] }
def PartBetweenSaid : Prop := partBetweenRow.holds Tryd.pinned (OpenSpec.ofChange partBetweenSpec)

/-- ITS FALSE NEIGHBOUR: 'it returns false'. Refute it at one input. -/
def partBetweenWrong : ChangeSpec := { name := "partBetween", fn := fun _ => fun
  | [d1, d2, d3] => { results := [.lit (.bool false)], args := [d1, d2, d3] }
  | _ => none }
def PartBetweenWrongFalsely : Prop := partBetweenRow.holds Tryd.pinned (OpenSpec.ofChange partBetweenWrong)

/-- 'bakehouselaw2.RightOnly': WHATEVER THE INPUT: true; the input reads as it did. -/
def rightOnlySpec : ChangeSpec := { name := "rightOnly", fn := fun _ => fun
  | [d1, d2, d3, d4, d5, d6] => { results := [.lit (.bool true)], args := [d1, d2, d3, d4, d5, d6] }
  | _ => none }
def rightOnlyRow : OpenClaim := { program := "ytajnfkmkombajaadoor", sum := "08746b9d275fc8821859c1553056ea3f808a50ec91896b61e163acb6093be3aa", func := "bakehouse/bakehouselaw2.RightOnly", spec := "rightOnly", unfollowed := true, recurses := true, named := ["bakehouse/api.ErrBound", "bakehouse/api.ErrShape", "bakehouse/api.ErrNone"], apart := false, laid := [("bakehouse/api.ErrBound", laid_bakehouse_api_ErrBound), ("bakehouse/api.ErrShape", laid_bakehouse_api_ErrShape), ("bakehouse/api.ErrNone", laid_bakehouse_api_ErrNone)] }
def RightOnlySaid : Prop := rightOnlyRow.holds Tryd.pinned (OpenSpec.ofChange rightOnlySpec)

/-- ITS FALSE NEIGHBOUR: 'it returns false'. Refute it at one input. -/
def rightOnlyWrong : ChangeSpec := { name := "rightOnly", fn := fun _ => fun
  | [d1, d2, d3, d4, d5, d6] => { results := [.lit (.bool false)], args := [d1, d2, d3, d4, d5, d6] }
  | _ => none }
def RightOnlyWrongFalsely : Prop := rightOnlyRow.holds Tryd.pinned (OpenSpec.ofChange rightOnlyWrong)

/-- 'bakehouselaw2.IssueFalls': WHATEVER THE INPUT: true; the input reads as it did. -/
def issueFallsSpec : ChangeSpec := { name := "issueFalls", fn := fun _ => fun
  | [d1, d2, d3, d4] => { results := [.lit (.bool true)], args := [d1, d2, d3, d4] }
  | _ => none }
def issueFallsRow : OpenClaim := { program := "ytajnfkmkombajaadoor", sum := "08746b9d275fc8821859c1553056ea3f808a50ec91896b61e163acb6093be3aa", func := "bakehouse/bakehouselaw2.IssueFalls", spec := "issueFalls", named := ["bakehouse/api.ErrBound", "math/bits.divideError", "math/bits.overflowError", "bakehouse/api.ErrShape"], apart := false, laid := [("bakehouse/api.ErrBound", laid_bakehouse_api_ErrBound), ("bakehouse/api.ErrShape", laid_bakehouse_api_ErrShape)] }
def IssueFallsSaid : Prop := issueFallsRow.holds Tryd.pinned (OpenSpec.ofChange issueFallsSpec)

/-- ITS FALSE NEIGHBOUR: 'it returns false'. Refute it at one input. -/
def issueFallsWrong : ChangeSpec := { name := "issueFalls", fn := fun _ => fun
  | [d1, d2, d3, d4] => { results := [.lit (.bool false)], args := [d1, d2, d3, d4] }
  | _ => none }
def IssueFallsWrongFalsely : Prop := issueFallsRow.holds Tryd.pinned (OpenSpec.ofChange issueFallsWrong)

/-- 'bakehouselaw1.PoolAlone': WHATEVER THE INPUT: true; the input reads as it did. -/
def poolAloneSpec : ChangeSpec := { name := "poolAlone", fn := fun _ => fun
  | [d1, d2, d3] => { results := [.lit (.bool true)], args := [d1, d2, d3] }
  | _ => none }
def poolAloneRow : OpenClaim := { program := "ytajnfkmkombajaadoor", sum := "08746b9d275fc8821859c1553056ea3f808a50ec91896b61e163acb6093be3aa", func := "bakehouse/bakehouselaw1.PoolAlone", spec := "poolAlone", named := ["bakehouse/api.ErrGone", "bakehouse/api.ErrBound", "bakehouse/api.ErrSmall", "math/bits.divideError", "math/bits.overflowError", "bakehouse/api.ErrNone"], apart := false, laid := [("bakehouse/api.ErrBound", laid_bakehouse_api_ErrBound), ("bakehouse/api.ErrNone", laid_bakehouse_api_ErrNone), ("bakehouse/api.ErrSmall", laid_bakehouse_api_ErrSmall), ("bakehouse/api.ErrGone", laid_bakehouse_api_ErrGone)] }
def PoolAloneSaid : Prop := poolAloneRow.holds Tryd.pinned (OpenSpec.ofChange poolAloneSpec)

/-- ITS FALSE NEIGHBOUR: 'it returns false'. Refute it at one input. -/
def poolAloneWrong : ChangeSpec := { name := "poolAlone", fn := fun _ => fun
  | [d1, d2, d3] => { results := [.lit (.bool false)], args := [d1, d2, d3] }
  | _ => none }
def PoolAloneWrongFalsely : Prop := poolAloneRow.holds Tryd.pinned (OpenSpec.ofChange poolAloneWrong)

/-- 'bakehouselaw1.Names': WHATEVER THE INPUT: true; the input reads as it did. -/
def namesSpec : ChangeSpec := { name := "names", fn := fun _ => fun
  | [] => { results := [.lit (.bool true)], args := [] }
  | _ => none }
def namesRow : OpenClaim := { program := "ytajnfkmkombajaadoor", sum := "08746b9d275fc8821859c1553056ea3f808a50ec91896b61e163acb6093be3aa", func := "bakehouse/bakehouselaw1.Names", spec := "names", inPlace := ["internal/reflectlite.ValueOf", "(internal/reflectlite.Value).Type", "(internal/reflectlite.Value).IsNil", "internal/reflectlite.TypeOf", "(internal/reflectlite.Value).Elem", "(internal/reflectlite.Value).Set"], unfollowed := true, recurses := true, named := ["bakehouse/api.ErrText", "bakehouse/api.ErrBound", "bakehouse/api.ErrShape", "bakehouse/api.ErrNone", "bakehouse/api.ErrExist", "bakehouse/api.ErrShort", "bakehouse/api.ErrSmall", "bakehouse/api.ErrGone", "bakehouse/api.ErrTurn", "bakehouse/api.ErrOld", "errors.errorType"], apart := false, laid := [("errors.errorType", laid_errors_errorType), ("bakehouse/api.ErrText", laid_bakehouse_api_ErrText), ("bakehouse/api.ErrBound", laid_bakehouse_api_ErrBound), ("bakehouse/api.ErrShape", laid_bakehouse_api_ErrShape), ("bakehouse/api.ErrNone", laid_bakehouse_api_ErrNone), ("bakehouse/api.ErrExist", laid_bakehouse_api_ErrExist), ("bakehouse/api.ErrShort", laid_bakehouse_api_ErrShort), ("bakehouse/api.ErrSmall", laid_bakehouse_api_ErrSmall), ("bakehouse/api.ErrGone", laid_bakehouse_api_ErrGone), ("bakehouse/api.ErrTurn", laid_bakehouse_api_ErrTurn), ("bakehouse/api.ErrOld", laid_bakehouse_api_ErrOld)] }
def NamesSaid : Prop := namesRow.holds Tryd.pinned (OpenSpec.ofChange namesSpec)

/-- ITS FALSE NEIGHBOUR: 'it returns false'. Refute it at one input. -/
def namesWrong : ChangeSpec := { name := "names", fn := fun _ => fun
  | [] => { results := [.lit (.bool false)], args := [] }
  | _ => none }
def NamesWrongFalsely : Prop := namesRow.holds Tryd.pinned (OpenSpec.ofChange namesWrong)

/-- 'bakehouselaw1.LotsNext': WHATEVER THE INPUT: true; the input reads as it did. -/
def lotsNextSpec : ChangeSpec := { name := "lotsNext", fn := fun _ => fun
  | [d1, d2] => { results := [.lit (.bool true)], args := [d1, d2] }
  | _ => none }
def lotsNextRow : OpenClaim := { program := "ytajnfkmkombajaadoor", sum := "08746b9d275fc8821859c1553056ea3f808a50ec91896b61e163acb6093be3aa", func := "bakehouse/bakehouselaw1.LotsNext", spec := "lotsNext", inPlace := ["internal/reflectlite.ValueOf", "(internal/reflectlite.Value).Type", "(internal/reflectlite.Value).IsNil", "internal/reflectlite.TypeOf", "(internal/reflectlite.Value).Elem", "(internal/reflectlite.Value).Set"], unfollowed := true, recurses := true, named := ["bakehouse/api.ErrBound", "bakehouse/api.ErrText", "bakehouse/api.ErrShape", "bakehouse/api.ErrNone", "bakehouse/api.ErrExist", "bakehouse/api.ErrShort", "bakehouse/api.ErrSmall", "bakehouse/api.ErrGone", "bakehouse/api.ErrTurn", "bakehouse/api.ErrOld", "errors.errorType"], apart := false, laid := [("errors.errorType", laid_errors_errorType), ("bakehouse/api.ErrText", laid_bakehouse_api_ErrText), ("bakehouse/api.ErrBound", laid_bakehouse_api_ErrBound), ("bakehouse/api.ErrShape", laid_bakehouse_api_ErrShape), ("bakehouse/api.ErrNone", laid_bakehouse_api_ErrNone), ("bakehouse/api.ErrExist", laid_bakehouse_api_ErrExist), ("bakehouse/api.ErrShort", laid_bakehouse_api_ErrShort), ("bakehouse/api.ErrSmall", laid_bakehouse_api_ErrSmall), ("bakehouse/api.ErrGone", laid_bakehouse_api_ErrGone), ("bakehouse/api.ErrTurn", laid_bakehouse_api_ErrTurn), ("bakehouse/api.ErrOld", laid_bakehouse_api_ErrOld)] }
def LotsNextSaid : Prop := lotsNextRow.holds Tryd.pinned (OpenSpec.ofChange lotsNextSpec)

/-- ITS FALSE NEIGHBOUR: 'it returns false'. Refute it at one input. -/
def lotsNextWrong : ChangeSpec := { name := "lotsNext", fn := fun _ => fun
  | [d1, d2] => { results := [.lit (.bool false)], args := [d1, d2] }
  | _ => none }
def LotsNextWrongFalsely : Prop := lotsNextRow.holds Tryd.pinned (OpenSpec.ofChange lotsNextWrong)

/-- 'bakehouselaw1.PoolFair': WHATEVER THE INPUT: true; the input reads as it did. -/
def poolFairSpec : ChangeSpec := { name := "poolFair", fn := fun _ => fun
  | [d] => { results := [.lit (.bool true)], args := [d] }
  | _ => none }
def poolFairRow : OpenClaim := { program := "ytajnfkmkombajaadoor", sum := "08746b9d275fc8821859c1553056ea3f808a50ec91896b61e163acb6093be3aa", func := "bakehouse/bakehouselaw1.PoolFair", spec := "poolFair", named := ["bakehouse/api.ErrGone", "bakehouse/api.ErrBound", "bakehouse/api.ErrSmall", "math/bits.divideError", "math/bits.overflowError", "bakehouse/api.ErrNone", "bakehouse/api.ErrShort"], apart := false, laid := [("bakehouse/api.ErrBound", laid_bakehouse_api_ErrBound), ("bakehouse/api.ErrNone", laid_bakehouse_api_ErrNone), ("bakehouse/api.ErrShort", laid_bakehouse_api_ErrShort), ("bakehouse/api.ErrSmall", laid_bakehouse_api_ErrSmall), ("bakehouse/api.ErrGone", laid_bakehouse_api_ErrGone)] }
def PoolFairSaid : Prop := poolFairRow.holds Tryd.pinned (OpenSpec.ofChange poolFairSpec)

/-- ITS FALSE NEIGHBOUR: 'it returns false'. Refute it at one input. -/
def poolFairWrong : ChangeSpec := { name := "poolFair", fn := fun _ => fun
  | [d] => { results := [.lit (.bool false)], args := [d] }
  | _ => none }
def PoolFairWrongFalsely : Prop := poolFairRow.holds Tryd.pinned (OpenSpec.ofChange poolFairWrong)

/- THE SECOND FORM. 'bulk': how many values and letters a reading holds, each counted each time it is reached (what is shared counts as often as it is met; a slice's spare places count too). A statement '..UptoSaid' is the law's where the arguments, and the package variables that the reading takes, are together of bulk at most 1048576: NARROWER than '..Said'. Prove '..Said' where nothing that the law and all that it calls make is longer than what came in: it says more and counts as full. Else prove '..UptoSaid'. A law counts once. -/
mutual
def uptoBulk {H : Type} : DataW H → Nat
  | .lit (.string bytes) => bytes.length + 1
  | .lit _ => 1
  | .nil => 1
  | .ptr d => uptoBulk d + 1
  | .slice elems spare => uptoBulkAll elems + uptoBulkAll spare + 1
  | .agg parts => uptoBulkAll parts + 1
  | .iface _ d => uptoBulk d + 1
  | .map entries => uptoBulkEntries entries + 1
  | .held _ => 1
def uptoBulkAll {H : Type} : List (DataW H) → Nat
  | [] => 0
  | d :: r => uptoBulk d + uptoBulkAll r
def uptoBulkEntries {H : Type} : List (Lit × DataW H) → Nat
  | [] => 0
  | x :: r => uptoBulkEntry x + uptoBulkEntries r
def uptoBulkEntry {H : Type} : Lit × DataW H → Nat
  | (.string bytes, d) => bytes.length + uptoBulk d + 1
  | (_, d) => uptoBulk d + 1
 end
def uptoSmall : (H : Type) → List (DataW H) → Bool := fun _ ds => decide (uptoBulkAll ds ≤ 1048576)
def OpenSpec.upto (s : _root_.Go.ChangeSpec) : _root_.Go.OpenSpec := { _root_.Go.OpenSpec.ofChange s with cond := some uptoSmall }

/-- 'bakehouselaw1.PurseSums', WHERE WHAT IT READS IS OF BULK AT MOST 1048576: true; the input reads as it did. -/
def purseSumsUptoRow : OpenClaim := { program := "ytajnfkmkombajaadoor", sum := "08746b9d275fc8821859c1553056ea3f808a50ec91896b61e163acb6093be3aa", func := "bakehouse/bakehouselaw1.PurseSums", spec := "purseSums", named := ["bakehouse/api.ErrBound", "bakehouse/api.ErrShort"], apart := false, laid := [("bakehouse/api.ErrBound", laid_bakehouse_api_ErrBound), ("bakehouse/api.ErrShort", laid_bakehouse_api_ErrShort)], narrowed := true }
def PurseSumsUptoSaid : Prop := purseSumsUptoRow.holds Tryd.pinned (OpenSpec.upto purseSumsSpec)

/-- 'bakehouselaw1.DrawJust', WHERE WHAT IT READS IS OF BULK AT MOST 1048576: true; the input reads as it did. -/
def drawJustUptoRow : OpenClaim := { program := "ytajnfkmkombajaadoor", sum := "08746b9d275fc8821859c1553056ea3f808a50ec91896b61e163acb6093be3aa", func := "bakehouse/bakehouselaw1.DrawJust", spec := "drawJust", unfollowed := true, recurses := true, named := ["bakehouse/api.ErrShape", "bakehouse/api.ErrBound", "bakehouse/api.ErrNone"], apart := false, laid := [("bakehouse/api.ErrBound", laid_bakehouse_api_ErrBound), ("bakehouse/api.ErrShape", laid_bakehouse_api_ErrShape), ("bakehouse/api.ErrNone", laid_bakehouse_api_ErrNone)], narrowed := true }
def DrawJustUptoSaid : Prop := drawJustUptoRow.holds Tryd.pinned (OpenSpec.upto drawJustSpec)

/-- 'bakehouselaw1.PartBack', WHERE WHAT IT READS IS OF BULK AT MOST 1048576: true; the input reads as it did. -/
def partBackUptoRow : OpenClaim := { program := "ytajnfkmkombajaadoor", sum := "08746b9d275fc8821859c1553056ea3f808a50ec91896b61e163acb6093be3aa", func := "bakehouse/bakehouselaw1.PartBack", spec := "partBack", named := ["bakehouse/api.ErrBound", "math/bits.divideError", "math/bits.overflowError"], apart := false, laid := [("bakehouse/api.ErrBound", laid_bakehouse_api_ErrBound)], narrowed := true }
def PartBackUptoSaid : Prop := partBackUptoRow.holds Tryd.pinned (OpenSpec.upto partBackSpec)

/-- 'bakehouselaw1.PartBetween', WHERE WHAT IT READS IS OF BULK AT MOST 1048576: true; the input reads as it did. -/
def partBetweenUptoRow : OpenClaim := { program := "ytajnfkmkombajaadoor", sum := "08746b9d275fc8821859c1553056ea3f808a50ec91896b61e163acb6093be3aa", func := "bakehouse/bakehouselaw1.PartBetween", spec := "partBetween", named := ["bakehouse/api.ErrBound", "math/bits.divideError", "math/bits.overflowError", "bakehouse/api.ErrShape"], apart := false, laid := [("bakehouse/api.ErrBound", laid_bakehouse_api_ErrBound), ("bakehouse/api.ErrShape", laid_bakehouse_api_ErrShape)], narrowed := true }
def PartBetweenUptoSaid : Prop := partBetweenUptoRow.holds Tryd.pinned (OpenSpec.upto partBetweenSpec)

/-- 'bakehouselaw2.RightOnly', WHERE WHAT IT READS IS OF BULK AT MOST 1048576: true; the input reads as it did. -/
def rightOnlyUptoRow : OpenClaim := { program := "ytajnfkmkombajaadoor", sum := "08746b9d275fc8821859c1553056ea3f808a50ec91896b61e163acb6093be3aa", func := "bakehouse/bakehouselaw2.RightOnly", spec := "rightOnly", unfollowed := true, recurses := true, named := ["bakehouse/api.ErrBound", "bakehouse/api.ErrShape", "bakehouse/api.ErrNone"], apart := false, laid := [("bakehouse/api.ErrBound", laid_bakehouse_api_ErrBound), ("bakehouse/api.ErrShape", laid_bakehouse_api_ErrShape), ("bakehouse/api.ErrNone", laid_bakehouse_api_ErrNone)], narrowed := true }
def RightOnlyUptoSaid : Prop := rightOnlyUptoRow.holds Tryd.pinned (OpenSpec.upto rightOnlySpec)

/-- 'bakehouselaw2.IssueFalls', WHERE WHAT IT READS IS OF BULK AT MOST 1048576: true; the input reads as it did. -/
def issueFallsUptoRow : OpenClaim := { program := "ytajnfkmkombajaadoor", sum := "08746b9d275fc8821859c1553056ea3f808a50ec91896b61e163acb6093be3aa", func := "bakehouse/bakehouselaw2.IssueFalls", spec := "issueFalls", named := ["bakehouse/api.ErrBound", "math/bits.divideError", "math/bits.overflowError", "bakehouse/api.ErrShape"], apart := false, laid := [("bakehouse/api.ErrBound", laid_bakehouse_api_ErrBound), ("bakehouse/api.ErrShape", laid_bakehouse_api_ErrShape)], narrowed := true }
def IssueFallsUptoSaid : Prop := issueFallsUptoRow.holds Tryd.pinned (OpenSpec.upto issueFallsSpec)

/-- 'bakehouselaw1.PoolAlone', WHERE WHAT IT READS IS OF BULK AT MOST 1048576: true; the input reads as it did. -/
def poolAloneUptoRow : OpenClaim := { program := "ytajnfkmkombajaadoor", sum := "08746b9d275fc8821859c1553056ea3f808a50ec91896b61e163acb6093be3aa", func := "bakehouse/bakehouselaw1.PoolAlone", spec := "poolAlone", named := ["bakehouse/api.ErrGone", "bakehouse/api.ErrBound", "bakehouse/api.ErrSmall", "math/bits.divideError", "math/bits.overflowError", "bakehouse/api.ErrNone"], apart := false, laid := [("bakehouse/api.ErrBound", laid_bakehouse_api_ErrBound), ("bakehouse/api.ErrNone", laid_bakehouse_api_ErrNone), ("bakehouse/api.ErrSmall", laid_bakehouse_api_ErrSmall), ("bakehouse/api.ErrGone", laid_bakehouse_api_ErrGone)], narrowed := true }
def PoolAloneUptoSaid : Prop := poolAloneUptoRow.holds Tryd.pinned (OpenSpec.upto poolAloneSpec)

/-- 'bakehouselaw1.Names', WHERE WHAT IT READS IS OF BULK AT MOST 1048576: true; the input reads as it did. -/
def namesUptoRow : OpenClaim := { program := "ytajnfkmkombajaadoor", sum := "08746b9d275fc8821859c1553056ea3f808a50ec91896b61e163acb6093be3aa", func := "bakehouse/bakehouselaw1.Names", spec := "names", inPlace := ["internal/reflectlite.ValueOf", "(internal/reflectlite.Value).Type", "(internal/reflectlite.Value).IsNil", "internal/reflectlite.TypeOf", "(internal/reflectlite.Value).Elem", "(internal/reflectlite.Value).Set"], unfollowed := true, recurses := true, named := ["bakehouse/api.ErrText", "bakehouse/api.ErrBound", "bakehouse/api.ErrShape", "bakehouse/api.ErrNone", "bakehouse/api.ErrExist", "bakehouse/api.ErrShort", "bakehouse/api.ErrSmall", "bakehouse/api.ErrGone", "bakehouse/api.ErrTurn", "bakehouse/api.ErrOld", "errors.errorType"], apart := false, laid := [("errors.errorType", laid_errors_errorType), ("bakehouse/api.ErrText", laid_bakehouse_api_ErrText), ("bakehouse/api.ErrBound", laid_bakehouse_api_ErrBound), ("bakehouse/api.ErrShape", laid_bakehouse_api_ErrShape), ("bakehouse/api.ErrNone", laid_bakehouse_api_ErrNone), ("bakehouse/api.ErrExist", laid_bakehouse_api_ErrExist), ("bakehouse/api.ErrShort", laid_bakehouse_api_ErrShort), ("bakehouse/api.ErrSmall", laid_bakehouse_api_ErrSmall), ("bakehouse/api.ErrGone", laid_bakehouse_api_ErrGone), ("bakehouse/api.ErrTurn", laid_bakehouse_api_ErrTurn), ("bakehouse/api.ErrOld", laid_bakehouse_api_ErrOld)], narrowed := true }
def NamesUptoSaid : Prop := namesUptoRow.holds Tryd.pinned (OpenSpec.upto namesSpec)

/-- 'bakehouselaw1.LotsNext', WHERE WHAT IT READS IS OF BULK AT MOST 1048576: true; the input reads as it did. -/
def lotsNextUptoRow : OpenClaim := { program := "ytajnfkmkombajaadoor", sum := "08746b9d275fc8821859c1553056ea3f808a50ec91896b61e163acb6093be3aa", func := "bakehouse/bakehouselaw1.LotsNext", spec := "lotsNext", inPlace := ["internal/reflectlite.ValueOf", "(internal/reflectlite.Value).Type", "(internal/reflectlite.Value).IsNil", "internal/reflectlite.TypeOf", "(internal/reflectlite.Value).Elem", "(internal/reflectlite.Value).Set"], unfollowed := true, recurses := true, named := ["bakehouse/api.ErrBound", "bakehouse/api.ErrText", "bakehouse/api.ErrShape", "bakehouse/api.ErrNone", "bakehouse/api.ErrExist", "bakehouse/api.ErrShort", "bakehouse/api.ErrSmall", "bakehouse/api.ErrGone", "bakehouse/api.ErrTurn", "bakehouse/api.ErrOld", "errors.errorType"], apart := false, laid := [("errors.errorType", laid_errors_errorType), ("bakehouse/api.ErrText", laid_bakehouse_api_ErrText), ("bakehouse/api.ErrBound", laid_bakehouse_api_ErrBound), ("bakehouse/api.ErrShape", laid_bakehouse_api_ErrShape), ("bakehouse/api.ErrNone", laid_bakehouse_api_ErrNone), ("bakehouse/api.ErrExist", laid_bakehouse_api_ErrExist), ("bakehouse/api.ErrShort", laid_bakehouse_api_ErrShort), ("bakehouse/api.ErrSmall", laid_bakehouse_api_ErrSmall), ("bakehouse/api.ErrGone", laid_bakehouse_api_ErrGone), ("bakehouse/api.ErrTurn", laid_bakehouse_api_ErrTurn), ("bakehouse/api.ErrOld", laid_bakehouse_api_ErrOld)], narrowed := true }
def LotsNextUptoSaid : Prop := lotsNextUptoRow.holds Tryd.pinned (OpenSpec.upto lotsNextSpec)

/-- 'bakehouselaw1.PoolFair', WHERE WHAT IT READS IS OF BULK AT MOST 1048576: true; the input reads as it did. -/
def poolFairUptoRow : OpenClaim := { program := "ytajnfkmkombajaadoor", sum := "08746b9d275fc8821859c1553056ea3f808a50ec91896b61e163acb6093be3aa", func := "bakehouse/bakehouselaw1.PoolFair", spec := "poolFair", named := ["bakehouse/api.ErrGone", "bakehouse/api.ErrBound", "bakehouse/api.ErrSmall", "math/bits.divideError", "math/bits.overflowError", "bakehouse/api.ErrNone", "bakehouse/api.ErrShort"], apart := false, laid := [("bakehouse/api.ErrBound", laid_bakehouse_api_ErrBound), ("bakehouse/api.ErrNone", laid_bakehouse_api_ErrNone), ("bakehouse/api.ErrShort", laid_bakehouse_api_ErrShort), ("bakehouse/api.ErrSmall", laid_bakehouse_api_ErrSmall), ("bakehouse/api.ErrGone", laid_bakehouse_api_ErrGone)], narrowed := true }
def PoolFairUptoSaid : Prop := poolFairUptoRow.holds Tryd.pinned (OpenSpec.upto poolFairSpec)

end Rows
end Go.Proofs.YtajnfkmkombajaaDoor
