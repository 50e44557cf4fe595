/-
  Proves the tied card of the law StakeSums: called with any values that can be read as its arguments, the Go function answers true, and nothing that was there is changed.
  The frame is the kit's proof skeleton for this row, turned to a row with listed sentinels by a program of mine (gencard).
-/
import Derived.Test.YtajnfkmkombajabDoorRows
import Derived.Test.YtajnfkmkombajabDoorCards
import Derived.Test.YtajnfkmkombajabDoorTie
import Derived.Test.YtajnfkmkombajabDoorLaid
import Derived.Test.YtajnfkmkombajabDoorStakeSumsW
import Derived.Test.YtajnfkmkombajabDoorOpenS
import Derived.SevenTiedAt
import Derived.LaidMore
import Derived.LaidHandle
import Derived.MakeChecks
import Derived.Stop.Joined
import Derived.WalkKit
import Derived.ProofKit
import Derived.OpenShut
import Derived.ShutString
import Derived.ChangeOld
import Derived.Below
namespace Go.Proofs.YtajnfkmkombajabDoor.stakeSums
open Go.ChangeShapes Go.WideShapes Go.ChangeAt Go.RowKit
open Go.ChangeMaps (open_string shut_string)
set_option linter.unusedVariables false

theorem own : ownKnob Tryd.prog.godebug = none := by kernel_rfl
theorem laidOut : laidOutB Tryd.prog = true := by kernel_rfl

/-! ### STEP 1: THE WALK: the Go text returns true, AND WRITES NOTHING THAT WAS THERE: 'Below w.heap.size w w'' (Derived/Below.lean: '.refl', '.alloc', '.drew', '.setCell' at a new block, '.trans'). Open each 'IsRow' by 'rcases' AHEAD of 'go_enter'; part every test ahead of the walk. -/
theorem walk (A : Nat → Addr) (a0 : Option Addr) (len0 cap0 : Nat) (z0 : List ActS) (w : World) (w0 : (RdR ActS.enc 5 w a0 len0 cap0 z0 ∧ ∀ x ∈ z0, ActS.wf x)) (hE : Errs A [2, 4, 5, 6, 7, 8] w) :
    Calls Tryd.prog 13 #[.slice a0 len0 cap0] w fun e w' => e = .returned (.bool true) ∧ Below w.heap.size w w' := by
  have H : Calls Tryd.prog _ #[.slice a0 len0 cap0] w fun e w' => e = .returned (.bool true) ∧ Below w.heap.size w w' := sums_all A a0 len0 cap0 z0 w [2, 4, 5, 6, 7, 8] hE (by decide) (by decide) (by decide) (by decide) (by decide) (by decide) w0.1 w0.2
  exact H

/-! ### THE ROW's STEP: WRITTEN OUT: LEAVE IT -/
/-- The door's own heap meets the condition. -/
theorem door_met (os : Os) (args : Array Value) : laidMetH Tryd.prog Rows.stakeSumsRow.laid ((World.doorLaid Tryd.prog 206 os).forCall (fun _ _ => 0) ⟨#[], args, []⟩).memory :=
  laidMetH_of_parts3 (fuel := 8) (laidMet_of_run' 8 (by kernel_rfl) (by kernel_rfl)) (by kernel_rfl) (by kernel_rfl)

theorem laid_as : LaidAs [2, 4, 5, 6, 7, 8] (Rows.stakeSumsRow.laid.filter fun x => x.2.handleName?.isNone) := by
  rw [show (Rows.stakeSumsRow.laid.filter fun x => x.2.handleName?.isNone) = [("bakehouse/api.ErrBound", Rows.laid_bakehouse_api_ErrBound), ("bakehouse/api.ErrNone", Rows.laid_bakehouse_api_ErrNone), ("bakehouse/api.ErrExist", Rows.laid_bakehouse_api_ErrExist), ("bakehouse/api.ErrShort", Rows.laid_bakehouse_api_ErrShort), ("bakehouse/api.ErrSmall", Rows.laid_bakehouse_api_ErrSmall), ("bakehouse/api.ErrGone", Rows.laid_bakehouse_api_ErrGone)] from by kernel_rfl]
  refine ⟨⟨by decide, by decide, by kernel_rfl, by kernel_rfl, _, rfl⟩, ⟨⟨by decide, by decide, by kernel_rfl, by kernel_rfl, _, rfl⟩, ⟨⟨by decide, by decide, by kernel_rfl, by kernel_rfl, _, rfl⟩, ⟨⟨by decide, by decide, by kernel_rfl, by kernel_rfl, _, rfl⟩, ⟨⟨by decide, by decide, by kernel_rfl, by kernel_rfl, _, rfl⟩, ⟨⟨by decide, by decide, by kernel_rfl, by kernel_rfl, _, rfl⟩, trivial⟩⟩⟩⟩⟩⟩

set_option maxRecDepth 100000 in
theorem lifted (os : Os) (started : os.Started) (H : Type) (enc : TypeId × Value → H) :
    ReturnsInHanded {} Tryd.checked os 13 .any (fun w args => (Rows.stakeSumsSpec.pre enc Tryd.prog Tryd.f13 [] false w args ∧ laidMetH Tryd.prog Rows.stakeSumsRow.laid w) ∧ sizedMet enc Tryd.prog Tryd.f13 (OpenSpec.ofChange Rows.stakeSumsSpec) false w args)
      (Rows.stakeSumsSpec.post enc Tryd.prog Tryd.f13 false true false false) := by
  refine returnsInHanded_of_change_and (C := Tryd.checked) (X := fun w _ => laidMetH Tryd.prog Rows.stakeSumsRow.laid w) (fun _ _ _ hh h => h.of_heap hh) own started (by kernel_rfl) Tryd.func13
    (ChangeSpec.witness_shaped (enc := enc) (C := Tryd.checked) (os := os) (X := fun w _ => laidMetH Tryd.prog Rows.stakeSumsRow.laid w) false (World.doorLaid Tryd.prog 206 os) #[.slice none 0 0] 8 rfl (World.shaped_of_RefB (by kernel_rfl) (by kernel_rfl)) (by kernel_rfl) (by kernel_rfl) (by kernel_rfl) (door_met os _)) ?_
  intro W base args ds gs before hval0 hW _ _ hL hsz
  have hval : ∀ (j : Nat) t v, Tryd.f13.params[j]? = some t → args[j]? = some v → Value.okWide Tryd.prog W .any base t v := hval0
  have hW' := hW
  obtain ⟨p, q, hA0, hV, rfl, hfz, hnd⟩ := hW
  have hA : DataW.TrodAll enc Tryd.prog W 0 (fun _ => true) true Tryd.f13.params.toList args.toList ds p := hA0
  rw [Tryd.params13] at hA hval
  obtain ⟨v0, vs0, d0, ds0, p0, q0, hargs, rfl, rfl, h0, r0⟩ := trodAll_cons hA
  obtain ⟨rfl, rfl, rfl⟩ := trodAll_nil r0
  obtain rfl : args = #[v0] := by cases args; simp_all
  obtain ⟨rfl, rfl⟩ := trodVars_none hV
  obtain ⟨a0, len0, cap0, rfl⟩ := okWide_slice Tryd.underlying116 (hval 0 116 v0 rfl rfl)
  have k0 := h0
  have lt0 : ∀ x ∈ p0, x.block < W.heap.size := by obtain ⟨m, hm⟩ := k0; exact DataW.trod_lt m _ _ _ hm
  obtain ⟨z0, w0⟩ : ∃ zs, (RdR ActS.enc 5 W a0 len0 cap0 zs ∧ ∀ x ∈ zs, ActS.wf x) := sacts_of h0
  obtain ⟨A, hE⟩ := errs_of_laid [2, 4, 5, 6, 7, 8] _ laid_as (laidMetH_iff.1 hL).1
  clear hA0 hval0
  refine (walk A a0 len0 cap0 z0 W w0 hE).mono fun e W' ⟨he, bel⟩ => ?_
  subst he
  exact ⟨_, rfl, _, _, _, [], _, [], hW', trodAll_mk1 (shut_bool Tryd.underlying4 _), (trodAll_cons_mk (Below.trod laidOut (by kernel_rfl) (of_decide_eq_true (by kernel_rfl)) k0 bel lt0) trodAll_mk0), rfl, bel.frame _, fun h => by cases h⟩

theorem over : Rows.stakeSumsRow.holds Tryd.pinned (OpenSpec.ofChange Rows.stakeSumsSpec) :=
  OpenClaim.holds_of_wide 13 Tryd.f13 rfl rfl rfl rfl rfl rfl rfl ⟨rfl, rfl, rfl, rfl, rfl⟩ rfl rfl rfl rfl rfl (by kernel_rfl) Tryd.func13 (by kernel_rfl)
    (of_decide_eq_true (by kernel_rfl)) (by unfold Func.isWrapper; first | (rw [if_pos (by decide +kernel)]; kernel_rfl) | (rw [if_neg (by decide +kernel)]; exact ⟨rfl, rfl⟩))
    (fun os started H enc _ => lifted os started H enc)

/-- THE STATEMENT: the tied card -/
theorem proved : Rows.StakeSumsCardSaid :=
  Claim7.holds_tied_plain_at .later [] [.sentinel, .sentinel, .sentinel, .sentinel, .sentinel, .sentinel] true (true, "e40b30648ec620a38de08df93557e75a4730b86b5be458d8507ee0f484e708a2") true
    over (fun _ h => by cases h) (by kernel_rfl) (fun _ h => by cases h) stakeSums_row_tie rfl ⟨rfl, rfl⟩ (by kernel_rfl) rfl
    (fun f fn hf hfn => by
      obtain rfl : f = 13 := Option.some.inj ((show Tryd.prog.funcNamed "bakehouse/bakehouselaw2.StakeSums" = some 13 by kernel_rfl).symm.trans hf) |>.symm
      obtain rfl : fn = Tryd.f13 := (Option.some.inj (Tryd.func13.symm.trans hfn)).symm
      exact ⟨by kernel_rfl, fun j t ht => by
        rw [Tryd.params13] at ht
        have hm : t ∈ [116] := by simpa using Array.mem_of_getElem? ht
        have hall : ([116].all fun u => !Tryd.prog.wantsStandIn u) = true := by kernel_rfl
        exact (show Tryd.prog.wantsStandIn t = false by simpa using List.all_eq_true.1 hall t hm)⟩)
    (by kernel_rfl)
#print axioms proved
end Go.Proofs.YtajnfkmkombajabDoor.stakeSums
