/-
  Proves the tied card of the law Names: called with any values that can be read as its arguments, the Go function answers true, and nothing that was there is changed.
  The frame is the kit's proof skeleton for this row, turned to a row with listed sentinels by a program of mine (gencard).
-/
import Derived.Test.YtajnfkmkombajaaDoorRows
import Derived.Test.YtajnfkmkombajaaDoorCards
import Derived.Test.YtajnfkmkombajaaDoorTie
import Derived.Test.YtajnfkmkombajaaDoorLaid
import Derived.Test.YtajnfkmkombajaaDoorNamesW
import Derived.Test.YtajnfkmkombajaaDoorSents
import Derived.SevenTiedAt
import Derived.LaidMore
import Derived.LaidHandle
import Derived.MakeChecks
import Derived.Stop.Joined
import Derived.WalkKit
import Derived.ProofKit
import Derived.OpenShut
import Derived.ShutString
set_option linter.unusedVariables false
set_option linter.unusedSimpArgs false
namespace Go.Proofs.YtajnfkmkombajaaDoor.names
open Go.ChangeShapes Go.WideShapes Go.ChangeAt Go.RowKit
open Go.ChangeMaps (open_string shut_string)
set_option linter.unusedVariables false      -- a walk need not use every 'w<i>' (that an integer argument fits its kind)

theorem own : ownKnob Tryd.prog.godebug = none := by kernel_rfl

theorem walk (A : Nat → Addr)  (w : World) (hS : Sents A w) :
    Calls Tryd.prog 10 #[] w fun e w' => e = .returned (.bool true) ∧ Below w.heap.size w w' := by
  exact names_walk A w hS
  -- go_enter Tryd.func10, Tryd.ntmps10
  -- go_wp2
  -- go_ret
  -- exact ⟨rfl, by repeat (first | exact Grown.refl _ | apply Grown.drew | apply Grown.alloc)⟩

/-! ### THE ROW's STEP: WRITTEN OUT: LEAVE IT -/
/-- The door's own heap meets the condition. -/
theorem door_met (os : Os) (args : Array Value) : laidMetH Tryd.prog Rows.namesRow.laid ((World.doorLaid Tryd.prog 206 os).forCall (fun _ _ => 0) ⟨#[], args, []⟩).memory :=
  laidMetH_of_parts3 (fuel := 8) (laidMet_of_run' 8 (by kernel_rfl) (by kernel_rfl)) (by kernel_rfl) (by kernel_rfl)

theorem laid_as : LaidAs [1, 2, 3, 4, 5, 6, 7, 8, 9, 10] (Rows.namesRow.laid.filter fun x => x.2.handleName?.isNone) := by
  rw [show (Rows.namesRow.laid.filter fun x => x.2.handleName?.isNone) = [("bakehouse/api.ErrText", Rows.laid_bakehouse_api_ErrText), ("bakehouse/api.ErrBound", Rows.laid_bakehouse_api_ErrBound), ("bakehouse/api.ErrShape", Rows.laid_bakehouse_api_ErrShape), ("bakehouse/api.ErrNone", Rows.laid_bakehouse_api_ErrNone), ("bakehouse/api.ErrExist", Rows.laid_bakehouse_api_ErrExist), ("bakehouse/api.ErrShort", Rows.laid_bakehouse_api_ErrShort), ("bakehouse/api.ErrSmall", Rows.laid_bakehouse_api_ErrSmall), ("bakehouse/api.ErrGone", Rows.laid_bakehouse_api_ErrGone), ("bakehouse/api.ErrTurn", Rows.laid_bakehouse_api_ErrTurn), ("bakehouse/api.ErrOld", Rows.laid_bakehouse_api_ErrOld)] from by kernel_rfl]
  refine ⟨⟨by decide, by decide, by kernel_rfl, by kernel_rfl, _, rfl⟩, ⟨⟨by decide, by decide, by kernel_rfl, by kernel_rfl, _, rfl⟩, ⟨⟨by decide, by decide, by kernel_rfl, by kernel_rfl, _, rfl⟩, ⟨⟨by decide, by decide, by kernel_rfl, by kernel_rfl, _, rfl⟩, ⟨⟨by decide, by decide, by kernel_rfl, by kernel_rfl, _, rfl⟩, ⟨⟨by decide, by decide, by kernel_rfl, by kernel_rfl, _, rfl⟩, ⟨⟨by decide, by decide, by kernel_rfl, by kernel_rfl, _, rfl⟩, ⟨⟨by decide, by decide, by kernel_rfl, by kernel_rfl, _, rfl⟩, ⟨⟨by decide, by decide, by kernel_rfl, by kernel_rfl, _, rfl⟩, ⟨⟨by decide, by decide, by kernel_rfl, by kernel_rfl, _, rfl⟩, trivial⟩⟩⟩⟩⟩⟩⟩⟩⟩⟩

set_option maxRecDepth 100000 in
theorem lifted (os : Os) (started : os.Started) (H : Type) (enc : TypeId × Value → H) :
    ReturnsInHanded {} Tryd.checked os 10 .any (fun w args => (Rows.namesSpec.pre enc Tryd.prog Tryd.f10 [] false w args ∧ laidMetH Tryd.prog Rows.namesRow.laid w) ∧ sizedMet enc Tryd.prog Tryd.f10 (OpenSpec.ofChange Rows.namesSpec) false w args)
      (Rows.namesSpec.post enc Tryd.prog Tryd.f10 false true false false) := by
  refine returnsInHanded_of_change_and (C := Tryd.checked) (X := fun w _ => laidMetH Tryd.prog Rows.namesRow.laid w) (fun _ _ _ hh h => h.of_heap hh) own started (by kernel_rfl) Tryd.func10
    (ChangeSpec.witness_shaped (enc := enc) (C := Tryd.checked) (os := os) (X := fun w _ => laidMetH Tryd.prog Rows.namesRow.laid w) false (World.doorLaid Tryd.prog 206 os) #[] 8 rfl (World.shaped_of_RefB (by kernel_rfl) (by kernel_rfl)) (by kernel_rfl) (by kernel_rfl) (by kernel_rfl) (door_met os _)) ?_
  intro W base args ds gs before hval0 hW _ _ hL hsz
  have hval : ∀ (j : Nat) t v, Tryd.f10.params[j]? = some t → args[j]? = some v → Value.okWide Tryd.prog W .any base t v := hval0
  have hW' := hW
  obtain ⟨p, q, hA0, hV, rfl, hfz, hnd⟩ := hW
  have hA : DataW.TrodAll enc Tryd.prog W 0 (fun _ => true) true Tryd.f10.params.toList args.toList ds p := hA0
  rw [Tryd.params10] at hA hval
  obtain ⟨rfl, rfl, rfl⟩ := trodAll_none hA
  obtain ⟨rfl, rfl⟩ := trodVars_none hV
  obtain ⟨A, hS⟩ := sents_of_laid hL laid_as (List.Mem.head _) (by kernel_rfl)
  clear hA0 hval0
  refine (walk A  W hS).mono fun e W' ⟨he, hg⟩ => ?_
  subst he
  exact ⟨_, rfl, _, _, _, [], _, [], hW', trodAll_mk1 (shut_bool Tryd.underlying4 _), rfl, rfl, hg.frame _, fun h => by cases h⟩

theorem over : Rows.namesRow.holds Tryd.pinned (OpenSpec.ofChange Rows.namesSpec) :=
  OpenClaim.holds_of_wide 10 Tryd.f10 rfl rfl rfl rfl rfl rfl rfl ⟨rfl, rfl, rfl, rfl, rfl⟩ rfl rfl rfl rfl rfl (by kernel_rfl) Tryd.func10 (by kernel_rfl)
    (of_decide_eq_true (by kernel_rfl)) (by unfold Func.isWrapper; first | (rw [if_pos (by decide +kernel)]; kernel_rfl) | (rw [if_neg (by decide +kernel)]; exact ⟨rfl, rfl⟩))
    (fun os started H enc _ => lifted os started H enc)

/-- THE STATEMENT: the tied card -/
theorem proved : Rows.NamesCardSaid :=
  Claim7.holds_tied_plain_at .later [] [.handle, .sentinel, .sentinel, .sentinel, .sentinel, .sentinel, .sentinel, .sentinel, .sentinel, .sentinel, .sentinel] true (true, "3a230b7f719272adbf6fd6e42ee4faea5b5a73796977afc33d7bcb52431af8ab") true
    over (fun _ h => by cases h) (by kernel_rfl) (fun _ h => by cases h) names_row_tie rfl ⟨rfl, rfl⟩ (by kernel_rfl) rfl
    (fun f fn hf hfn => by
      obtain rfl : f = 10 := Option.some.inj ((show Tryd.prog.funcNamed "bakehouse/bakehouselaw1.Names" = some 10 by kernel_rfl).symm.trans hf) |>.symm
      obtain rfl : fn = Tryd.f10 := (Option.some.inj (Tryd.func10.symm.trans hfn)).symm
      exact ⟨by kernel_rfl, fun j t ht => by
        rw [Tryd.params10] at ht
        simp at ht⟩)
    (by kernel_rfl)
#print axioms proved
end Go.Proofs.YtajnfkmkombajaaDoor.names
