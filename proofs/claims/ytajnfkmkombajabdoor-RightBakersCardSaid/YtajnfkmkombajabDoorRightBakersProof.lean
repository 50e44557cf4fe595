/-
  Proves the tied card of the law RightBakers: called with any values that can be read as its arguments, the Go function answers true, and nothing that was there is changed.
  The frame is the kit's proof skeleton for this row, turned to a row with listed sentinels by a program of mine (gencard).
-/
import Derived.Test.YtajnfkmkombajabDoorRows
import Derived.Test.YtajnfkmkombajabDoorCards
import Derived.Test.YtajnfkmkombajabDoorTie
import Derived.Test.YtajnfkmkombajabDoorLaid
import Derived.Test.YtajnfkmkombajabDoorRightBakersW
import Derived.Test.YtajnfkmkombajabDoorSents
import Derived.SevenTiedAt
import Derived.Test.YtajnfkmkombajabDoorLeave
import Derived.LaidMore
import Derived.LaidHandle
import Derived.MakeChecks
import Derived.Stop.Joined
import Derived.WalkKit
import Derived.ProofKit
import Derived.OpenShut
import Derived.ShutString
import Derived.ChangeOld
import Derived.Below
set_option linter.unusedVariables false
set_option linter.unusedSimpArgs false
namespace Go.Proofs.YtajnfkmkombajabDoor.rightBakers
open Go.ChangeShapes Go.WideShapes Go.ChangeAt Go.RowKit
open Go.ChangeMaps (open_string shut_string)
set_option linter.unusedVariables false

theorem own : ownKnob Tryd.prog.godebug = none := by kernel_rfl
theorem laidOut : laidOutB Tryd.prog = true := by kernel_rfl

/-- WHAT THE WALK IS TOLD OF A SLICE OF INTEGERS THAT CAME IN: it is nil; or it leads to a row of 'cap' cells, the numbers 'zs' (the first 'len' are its elements, the rest its spare room), each fitting its kind. -/
def IsRow (k : IntKind) (w : World) (a : Option Addr) (len cap : Nat) (zs : List Int) : Prop :=
  (a = none ∧ len = 0 ∧ cap = 0 ∧ zs = []) ∨
  ∃ x, a = some x ∧ len ≤ cap ∧ cap ≤ maxLen ∧ zs.length = cap ∧ (∀ i, i < zs.length → w.cell? (x.add i) = some (.int k (zs.getD i 0))) ∧ ∀ n ∈ zs, (Lit.int k n).wf = true

/-! ### STEP 1: THE WALK: the Go text returns true, AND WRITES NOTHING THAT WAS THERE: 'Below w.heap.size w w'' (Derived/Below.lean: '.refl', '.alloc', '.drew', '.setCell' at a new block, '.trans'). Open each 'IsRow' by 'rcases' AHEAD of 'go_enter'; part every test ahead of the walk. -/
theorem walk (A : Nat → Addr) (a0 : Option Addr) (len0 cap0 : Nat) (z0 : List Int) (a1 : Int) (a2 : Int) (a3 : Int) (a4 : Int) (w : World) (w0 : IsRow .i64 w a0 len0 cap0 z0) (w1 : (Lit.int .u64 a1).wf = true) (w2 : (Lit.int .i64 a2).wf = true) (w3 : (Lit.int .i64 a3).wf = true) (w4 : (Lit.int .i64 a4).wf = true) (hS : Sents A w) :
    Calls Tryd.prog 9 #[.slice a0 len0 cap0, .int .u64 a1, .int .i64 a2, .int .i64 a3, .int .i64 a4] w fun e w' => e = .returned (.bool true) ∧ Below w.heap.size w w' := by
  have hb : 0 ≤ a1 ∧ a1 < 18446744073709551616 := by simp [Lit.wf, IntKind.min, IntKind.max, IntKind.signed, IntKind.bits] at w1; omega
  obtain ⟨s, rfl⟩ := Int.eq_ofNat_of_zero_le hb.1
  have H : Calls Tryd.prog _ #[.slice a0 len0 cap0, .int .u64 s, .int .i64 a2, .int .i64 a3, .int .i64 a4] w fun e w' => e = .returned (.bool true) ∧ Below w.heap.size w w' := bakers_all A a0 len0 cap0 (z0.take len0) s (by omega) a2 a3 a4 w hS (RdI.of_row w0)
  exact H

/-! ### THE ROW's STEP: WRITTEN OUT: LEAVE IT -/
/-- The door's own heap meets the condition. -/
theorem door_met (os : Os) (args : Array Value) : laidMetH Tryd.prog Rows.rightBakersRow.laid ((World.doorLaid Tryd.prog 206 os).forCall (fun _ _ => 0) ⟨#[], args, []⟩).memory :=
  laidMetH_of_parts3 (fuel := 8) (laidMet_of_run' 8 (by kernel_rfl) (by kernel_rfl)) (by kernel_rfl) (by kernel_rfl)

theorem laid_as : LaidAs [1, 2, 3, 4, 5, 6, 7, 8, 9, 10] (Rows.rightBakersRow.laid.filter fun x => x.2.handleName?.isNone) := by
  rw [show (Rows.rightBakersRow.laid.filter fun x => x.2.handleName?.isNone) = [("bakehouse/api.ErrText", Rows.laid_bakehouse_api_ErrText), ("bakehouse/api.ErrBound", Rows.laid_bakehouse_api_ErrBound), ("bakehouse/api.ErrShape", Rows.laid_bakehouse_api_ErrShape), ("bakehouse/api.ErrNone", Rows.laid_bakehouse_api_ErrNone), ("bakehouse/api.ErrExist", Rows.laid_bakehouse_api_ErrExist), ("bakehouse/api.ErrShort", Rows.laid_bakehouse_api_ErrShort), ("bakehouse/api.ErrSmall", Rows.laid_bakehouse_api_ErrSmall), ("bakehouse/api.ErrGone", Rows.laid_bakehouse_api_ErrGone), ("bakehouse/api.ErrTurn", Rows.laid_bakehouse_api_ErrTurn), ("bakehouse/api.ErrOld", Rows.laid_bakehouse_api_ErrOld)] from by kernel_rfl]
  refine ⟨⟨by decide, by decide, by kernel_rfl, by kernel_rfl, _, rfl⟩, ⟨⟨by decide, by decide, by kernel_rfl, by kernel_rfl, _, rfl⟩, ⟨⟨by decide, by decide, by kernel_rfl, by kernel_rfl, _, rfl⟩, ⟨⟨by decide, by decide, by kernel_rfl, by kernel_rfl, _, rfl⟩, ⟨⟨by decide, by decide, by kernel_rfl, by kernel_rfl, _, rfl⟩, ⟨⟨by decide, by decide, by kernel_rfl, by kernel_rfl, _, rfl⟩, ⟨⟨by decide, by decide, by kernel_rfl, by kernel_rfl, _, rfl⟩, ⟨⟨by decide, by decide, by kernel_rfl, by kernel_rfl, _, rfl⟩, ⟨⟨by decide, by decide, by kernel_rfl, by kernel_rfl, _, rfl⟩, ⟨⟨by decide, by decide, by kernel_rfl, by kernel_rfl, _, rfl⟩, trivial⟩⟩⟩⟩⟩⟩⟩⟩⟩⟩

set_option maxRecDepth 100000 in
theorem lifted (os : Os) (started : os.Started) (H : Type) (enc : TypeId × Value → H) :
    ReturnsInHanded {} Tryd.checked os 9 .any (fun w args => (Rows.rightBakersSpec.pre enc Tryd.prog Tryd.f9 [] false w args ∧ laidMetH Tryd.prog Rows.rightBakersRow.laid w) ∧ sizedMet enc Tryd.prog Tryd.f9 (OpenSpec.ofChange Rows.rightBakersSpec) false w args)
      (Rows.rightBakersSpec.post enc Tryd.prog Tryd.f9 false true false false) := by
  refine returnsInHanded_of_change_and (C := Tryd.checked) (X := fun w _ => laidMetH Tryd.prog Rows.rightBakersRow.laid w) (fun _ _ _ hh h => h.of_heap hh) own started (by kernel_rfl) Tryd.func9
    (ChangeSpec.witness_shaped (enc := enc) (C := Tryd.checked) (os := os) (X := fun w _ => laidMetH Tryd.prog Rows.rightBakersRow.laid w) false (World.doorLaid Tryd.prog 206 os) #[.slice none 0 0, .int .u64 0, .int .i64 0, .int .i64 0, .int .i64 0] 8 rfl (World.shaped_of_RefB (by kernel_rfl) (by kernel_rfl)) (by kernel_rfl) (by kernel_rfl) (by kernel_rfl) (door_met os _)) ?_
  intro W base args ds gs before hval0 hW _ _ hL hsz
  have hval : ∀ (j : Nat) t v, Tryd.f9.params[j]? = some t → args[j]? = some v → Value.okWide Tryd.prog W .any base t v := hval0
  have hW' := hW
  obtain ⟨p, q, hA0, hV, rfl, hfz, hnd⟩ := hW
  have hA : DataW.TrodAll enc Tryd.prog W 0 (fun _ => true) true Tryd.f9.params.toList args.toList ds p := hA0
  rw [Tryd.params9] at hA hval
  obtain ⟨v0, vs0, d0, ds0, p0, q0, hargs, rfl, rfl, h0, r0⟩ := trodAll_cons hA
  obtain ⟨v1, vs1, d1, ds1, p1, q1, rfl, rfl, rfl, h1, r1⟩ := trodAll_cons r0
  obtain ⟨v2, vs2, d2, ds2, p2, q2, rfl, rfl, rfl, h2, r2⟩ := trodAll_cons r1
  obtain ⟨v3, vs3, d3, ds3, p3, q3, rfl, rfl, rfl, h3, r3⟩ := trodAll_cons r2
  obtain ⟨v4, vs4, d4, ds4, p4, q4, rfl, rfl, rfl, h4, r4⟩ := trodAll_cons r3
  obtain ⟨rfl, rfl, rfl⟩ := trodAll_nil r4
  obtain rfl : args = #[v0, v1, v2, v3, v4] := by cases args; simp_all
  obtain ⟨rfl, rfl⟩ := trodVars_none hV
  obtain ⟨a0, len0, cap0, rfl⟩ := okWide_slice Tryd.underlying51 (hval 0 51 v0 rfl rfl)
  have k0 := h0
  have lt0 : ∀ x ∈ p0, x.block < W.heap.size := by obtain ⟨m, hm⟩ := k0; exact DataW.trod_lt m _ _ _ hm
  obtain ⟨z0, w0⟩ : ∃ zs, IsRow .i64 W a0 len0 cap0 zs := by
    obtain ⟨fuel, hf⟩ := h0
    rcases open_ints Tryd.underlying51 Tryd.underlying3 (by kernel_rfl) hf with ⟨hcs, _⟩ | ⟨x, l, c, zs, hcs, _, hl, hm, hz, _, hcell, hwz⟩
    · simp [Value.cells] at hcs
      obtain ⟨rfl, rfl, rfl⟩ := hcs
      exact ⟨[], .inl ⟨rfl, rfl, rfl, rfl⟩⟩
    · simp [Value.cells] at hcs
      obtain ⟨rfl, rfl, rfl⟩ := hcs
      exact ⟨zs, .inr ⟨_, rfl, hl, hm, by simpa using hz, hcell, hwz⟩⟩
  obtain ⟨a1, rfl, rfl, rfl, w1⟩ := open_int Tryd.underlying94 (hval 1 94 v1 rfl rfl) h1
  obtain ⟨a2, rfl, rfl, rfl, w2⟩ := open_int Tryd.underlying3 (hval 2 3 v2 rfl rfl) h2
  obtain ⟨a3, rfl, rfl, rfl, w3⟩ := open_int Tryd.underlying3 (hval 3 3 v3 rfl rfl) h3
  obtain ⟨a4, rfl, rfl, rfl, w4⟩ := open_int Tryd.underlying3 (hval 4 3 v4 rfl rfl) h4
  obtain ⟨A, hS⟩ := sents_of_laid hL laid_as (List.Mem.head _) (by kernel_rfl)
  clear hA0 hval0
  refine (walk A a0 len0 cap0 z0 a1 a2 a3 a4 W w0 w1 w2 w3 w4 hS).mono fun e W' ⟨he, bel⟩ => ?_
  subst he
  exact ⟨_, rfl, _, _, _, [], _, [], hW', trodAll_mk1 (shut_bool Tryd.underlying4 _), (trodAll_cons_mk (Below.trod laidOut (by kernel_rfl) (of_decide_eq_true (by kernel_rfl)) k0 bel lt0) (trodAll_cons_mk (shut_int Tryd.underlying94 w1) (trodAll_cons_mk (shut_int Tryd.underlying3 w2) (trodAll_cons_mk (shut_int Tryd.underlying3 w3) (trodAll_cons_mk (shut_int Tryd.underlying3 w4) trodAll_mk0))))), rfl, bel.frame _, fun h => by cases h⟩

theorem over : Rows.rightBakersRow.holds Tryd.pinned (OpenSpec.ofChange Rows.rightBakersSpec) :=
  OpenClaim.holds_of_wide_leaving 9 Tryd.f9 rfl rfl rfl rfl rfl rfl rfl ⟨rfl, rfl, rfl, rfl, rfl⟩ rfl rfl rfl rfl rfl (by kernel_rfl) Tryd.func9 (by kernel_rfl)
    (of_decide_eq_true (by kernel_rfl)) (by unfold Func.isWrapper; first | (rw [if_pos (by decide +kernel)]; kernel_rfl) | (rw [if_neg (by decide +kernel)]; exact ⟨rfl, rfl⟩))
    (fun os started H enc _ => handed_leaving (lifted os started H enc))

/-- THE STATEMENT: the tied card -/
theorem proved : Rows.RightBakersCardSaid :=
  tied_goes .later [.handle, .sentinel, .sentinel, .sentinel, .sentinel, .sentinel, .sentinel, .sentinel, .sentinel, .sentinel, .sentinel] true (true, "e40b30648ec620a38de08df93557e75a4730b86b5be458d8507ee0f484e708a2") true
    over (by kernel_rfl) rightBakers_row_tie rfl ⟨rfl, rfl⟩ (by kernel_rfl) rfl
    (fun f fn hf hfn => by
      obtain rfl : f = 9 := Option.some.inj ((show Tryd.prog.funcNamed "bakehouse/bakehouselaw2.RightBakers" = some 9 by kernel_rfl).symm.trans hf) |>.symm
      obtain rfl : fn = Tryd.f9 := (Option.some.inj (Tryd.func9.symm.trans hfn)).symm
      exact ⟨by kernel_rfl, fun j t ht => by
        rw [Tryd.params9] at ht
        have hm : t ∈ [51, 94, 3, 3, 3] := by simpa using Array.mem_of_getElem? ht
        have hall : ([51, 94, 3, 3, 3].all fun u => !Tryd.prog.wantsStandIn u) = true := by kernel_rfl
        exact (show Tryd.prog.wantsStandIn t = false by simpa using List.all_eq_true.1 hall t hm)⟩)
    (by kernel_rfl)
#print axioms proved
end Go.Proofs.YtajnfkmkombajabDoor.rightBakers
