/- The closed fact of the stakes' laws. -/
import Derived.Test.YtajnfkmkombajacDoorStake11
set_option linter.unusedVariables false
set_option linter.unusedSimpArgs false
namespace Go.Proofs.YtajnfkmkombajacDoor
open Go.RowKit Go.Maps

section
variable {sb n : Nat} {F : Nat → Prop} {s : SS} {w : World}
theorem st_Is (k : Int) (h : StakesAt sb F n s w) : Calls Tryd.prog 22 #[.pointer (some ⟨sb, 0, none⟩), .int .i64 k] w fun e w' => e = .returned (.bool (s.is k)) ∧ w = w' := by
  obtain ⟨L, hL, _⟩ := h; exact stake_Is sb L n s k w hL
theorem st_Staked (k : Int) (h : StakesAt sb F n s w) : Calls Tryd.prog 21 #[.pointer (some ⟨sb, 0, none⟩), .int .i64 k] w fun e w' => e = .returned (.int .i64 (s.staked k)) ∧ w = w' := by
  obtain ⟨L, hL, _⟩ := h; exact stake_Staked sb L n s k w hL
theorem st_Total (h : StakesAt sb F n s w) (hW : s.W.length ≤ 8000) : Calls Tryd.prog 14 #[.pointer (some ⟨sb, 0, none⟩)] w fun e w' => e = .returned (.int .i64 s.total) ∧ Below w.heap.size w w' := by
  obtain ⟨L, hL, hF, hlt⟩ := h; exact stake_Total sb n F L s w hL hF hlt hW
theorem st_Waits (A : Nat → Addr) (S : List Nat) (o k c : Int) (h : StakesAt sb F n s w) (hE : Errs A S w) (h2 : 2 ∈ S) (ho : (Lit.int .i64 o).wf = true) (hc : (Lit.int .i64 c).wf = true) :
    Calls Tryd.prog 12 #[.pointer (some ⟨sb, 0, none⟩), .int .i64 o, .int .i64 k, .int .i64 c] w fun e w' => e = .returned (.int .i64 (s.waits o k c)) ∧ Dr w w' := by
  obtain ⟨L, hL, _⟩ := h; exact stake_Waits A S sb n L s o k c w hL hE h2 ho hc
theorem st_Value (A : Nat → Addr) (S : List Nat) (o k : Int) (h : StakesAt sb F n s w) (hE : Errs A S w) (h2 : 2 ∈ S) (ho : (Lit.int .i64 o).wf = true) :
    Calls Tryd.prog 15 #[.pointer (some ⟨sb, 0, none⟩), .int .i64 o, .int .i64 k] w fun e w' => e = .returned (.int .i64 (s.value o k)) ∧ Dr w w' := by
  obtain ⟨L, hL, _⟩ := h; exact stake_Value A S sb L n s o k w hL hE h2 ho
end

set_option maxRecDepth 8000 in
set_option maxHeartbeats 1000000 in
theorem law_staked (A : Nat → Addr) (S : List Nat) (w : World) (hE : Errs A S w) (h2 : 2 ∈ S) (h4 : 4 ∈ S) (h5 : 5 ∈ S) (h6 : 6 ∈ S) (h7 : 7 ∈ S) (h8 : 8 ∈ S) :
    Calls Tryd.prog 5 #[] w fun e w' => e = .returned (.bool true) ∧ Below w.heap.size w w' := by
  have HE := Lib.hid hE; clear hE
  obtain ⟨s1, s2, s3, f1, f2, f3, f4, f5, f6, f7⟩ := staked_facts
  have F1 := Lib.hid f1; have F2 := Lib.hid f2; have F3 := Lib.hid f3; have F4 := Lib.hid f4; have F5 := Lib.hid f5; have F6 := Lib.hid f6
  clear f1 f2 f3 f4 f5 f6
  go_enter Tryd.func5, Tryd.ntmps5
  go_wp2_with fail
  refine (stake_New _).mono ?_
  rintro e w1 ⟨rfl, hb1, hs1⟩
  have U1 := Lib.hid (show SU w w.heap.size (fun k => k = w.heap.size) 0 SS.new w1 from ⟨hb1, hs1, fun b hb => by rw [hb]; exact Nat.le_refl _⟩)
  clear hb1 hs1
  generalize hsb : w.heap.size = sb at *
  clear hsb
  go_wp2_with fail
  refine (stake_Register A S sb _ 0 SS.new 1 _ U1.out.st (HE.out.below U1.out.below) h2 h5).mono ?_
  rintro e w2 ⟨rfl, h⟩
  rw [F1.out] at h ⊢
  simp only [ev_nil]
  have U2 := Lib.hid (U1.out.of h); clear h
  go_wp2_with fail
  refine (stake_Join A S sb _ 0 s1 4 1 10 _ U2.out.st (HE.out.below U2.out.below) h2 h4 h7 h8 (by unfold maxLen; omega)).mono ?_
  rintro e w3 ⟨rfl, h⟩
  rw [F2.out] at h ⊢
  simp only [ev_nil]
  have U3 := Lib.hid (U2.out.of h); clear h
  go_wp2_with fail
  refine (stake_Leave A S sb _ 1 s2 4 1 3 5 _ U3.out.st (HE.out.below U3.out.below) h2 h4 h6 h7 h8 (by unfold maxLen; omega) (by decide)).mono ?_
  rintro e w4 ⟨rfl, h⟩
  rw [F3.out] at h ⊢
  simp only [ev_nil]
  have U4 := Lib.hid (U3.out.of h); clear h
  go_wp2_with fail
  refine (st_Staked 1 U4.out.st).mono ?_
  rintro e w5 ⟨rfl, rfl⟩
  rw [F4.out]
  go_wp2_with fail
  refine (st_Total U4.out.st f7).mono ?_
  rintro e w5 ⟨rfl, hb5⟩
  rw [F5.out]
  have U5 := Lib.hid (U4.out.next hb5); clear hb5
  go_wp2_with fail
  refine (st_Waits A S 4 1 5 U5.out.st (HE.out.below U5.out.below) h2 (by decide) (by decide)).mono ?_
  rintro e w6 ⟨rfl, d, rfl⟩
  rw [F6.out]
  go_wp2_with fail
  go_ret
  exact ⟨rfl, U5.out.below.drewN d⟩
end Go.Proofs.YtajnfkmkombajacDoor
