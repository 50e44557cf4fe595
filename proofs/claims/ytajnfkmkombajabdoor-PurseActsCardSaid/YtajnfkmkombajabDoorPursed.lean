/- The closed fact pursed. -/
import Derived.Test.YtajnfkmkombajabDoorPurse2
import Derived.Deep.RegionWith
set_option linter.unusedVariables false
set_option linter.unusedSimpArgs false
namespace Go.Proofs.YtajnfkmkombajabDoor
open Go.RowKit

theorem pursed_ops : PS.new.mintOp 1 5 = (0, ⟨[0, 5, 0, 0, 0, 0], 5, 5⟩) ∧ (PS.mk [0, 5, 0, 0, 0, 0] 5 5).outOp 1 2 = (0, ⟨[0, 3, 0, 0, 0, 0], 3, 5⟩) ∧ (if ownB 1 then (PS.mk [0, 3, 0, 0, 0, 0] 3 5).at 1 else 0) = 3 := ⟨by rfl, by rfl, by rfl⟩

set_option maxRecDepth 8000 in
theorem law_pursed (A : Nat → Addr) (S : List Nat) (w : World) (hE : Errs A S w) (h2 : 2 ∈ S) (h6 : 6 ∈ S) :
    Calls Tryd.prog 23 #[] w fun e w' => e = .returned (.bool true) ∧ Below w.heap.size w w' := by
  have HE := Lib.hid hE; clear hE
  obtain ⟨o1, o2, o3⟩ := pursed_ops
  have O1 := Lib.hid o1; have O2 := Lib.hid o2; have O3 := Lib.hid o3
  clear o1 o2 o3
  go_enter Tryd.func23, Tryd.ntmps23
  go_wp2_with fail
  refine (purse_New _).mono ?_
  rintro e w1 ⟨rfl, hb1, hp1⟩
  go_wp2_with fail
  refine (purse_Mint A S _ _ _ _ _ (HE.out.below hb1) h2 hp1).mono ?_
  rintro e w2 ⟨rfl, k2⟩
  rw [O1.out] at k2 ⊢
  have b2 := Keep.after hb1 k2.1 (fun i hi => by omega)
  have K2 := Lib.hid k2; clear k2
  simp only [ev_nil]
  go_wp2_with fail
  refine (purse_Out A S _ _ _ _ _ (HE.out.below b2) h2 h6 K2.out.2).mono ?_
  rintro e w3 ⟨rfl, k3⟩
  rw [O2.out] at k3 ⊢
  have b3 := Keep.after b2 k3.1 (fun i hi => by omega)
  have K3 := Lib.hid k3; clear k3
  simp only [ev_nil]
  go_wp2_with fail
  refine (purse_Has _ _ _ _ K3.out.2).mono ?_
  rintro e w4 ⟨rfl, rfl⟩
  rw [O3.out]
  go_wp2_with fail
  refine (purse_Supply _ _ _ K3.out.2).mono ?_
  rintro e w4 ⟨rfl, rfl⟩
  go_wp2
  go_ret
  exact ⟨rfl, b3⟩

theorem far_new {A : Nat → Addr} {S : List Nat} {w : World} (h : Errs A S w) {b : Nat} (hb : w.heap.size ≤ b) : Far S b := fun c hc e => by
  have := World.block_lt_of_cell? w _ (h.cell c hc); simp only at this; omega

end Go.Proofs.YtajnfkmkombajabDoor
