/- The closed fact joined; what a pool's laws keep from one act to the next. -/
import Derived.Test.YtajnfkmkombajabDoorPool2
import Derived.Test.YtajnfkmkombajabDoorPlFair
import Derived.Deep.RegionWith
set_option linter.unusedVariables false
set_option linter.unusedSimpArgs false
namespace Go.Proofs.YtajnfkmkombajabDoor
open Go.RowKit

structure PoolLoop (W : World) (b mb n : Nat) (q : QS) (w : World) : Prop where
  pool : PoolAt b mb n q w
  below : Below W.heap.size W w
  new : W.heap.size ≤ b
  newm : W.heap.size ≤ mb
theorem PoolLoop.drewN {W : World} {b mb n : Nat} {q : QS} {w : World} (h : PoolLoop W b mb n q w) (k : Nat) : PoolLoop W b mb n q (w.drewN k) := ⟨h.pool.drewN k, h.below.drewN k, h.new, h.newm⟩
theorem PoolLoop.dr {W : World} {b mb n : Nat} {q : QS} {w w' : World} (h : PoolLoop W b mb n q w) (k : Dr w w') : PoolLoop W b mb n q w' := by obtain ⟨j, rfl⟩ := k; exact h.drewN j
theorem PoolLoop.mono {W : World} {b mb n m : Nat} {q : QS} {w : World} (h : PoolLoop W b mb n q w) (hm : n ≤ m) : PoolLoop W b mb m q w := ⟨h.pool.mono hm, h.below, h.new, h.newm⟩
theorem PoolLoop.keepB {W : World} {b mb n : Nat} {q : QS} {w w' : World} (h : PoolLoop W b mb n q w) (k : Below w.heap.size w w') : PoolLoop W b mb n q w' :=
  ⟨h.pool.below k h.pool.lt.1 h.pool.lt.2, btrans h.below k, h.new, h.newm⟩
theorem PoolLoop.alloc {W : World} {b mb n : Nat} {q : QS} {w : World} (h : PoolLoop W b mb n q w) (o : Obj) : PoolLoop W b mb n q (w.alloc o) :=
  h.keepB ((Below.refl _ _).alloc (Nat.le_refl _) _)
theorem PoolLoop.step {W : World} {b mb n m : Nat} {p q : QS} {w w' : World} (h : PoolLoop W b mb n p w) (k : PoolP b mb m q w w') : PoolLoop W b mb m q w' :=
  ⟨k.2, Keep.after h.below k.1 (fun i hi => by have := h.new; have := h.newm; rcases hi with rfl | rfl <;> assumption), h.new, h.newm⟩

def qJ1 : QS := ⟨10, 10, [10, 0, 0, 0, 0, 0]⟩
def qJ2 : QS := ⟨20, 10, [10, 0, 0, 0, 0, 0]⟩
def qJ3 : QS := ⟨30, 15, [10, 5, 0, 0, 0, 0]⟩
theorem joined_ops : QS.new.joinOp 0 10 = (0, qJ1) ∧ qJ1.addOp 10 = (0, qJ2) ∧ qJ2.joinOp 1 10 = (0, qJ3) ∧ qJ3.at 1 = 5 ∧ qJ3.value 0 = 20 := ⟨by rfl, by rfl, by rfl, by rfl, by rfl⟩

set_option maxRecDepth 8000 in
theorem law_joined (A : Nat → Addr) (S : List Nat) (w : World) (hE : Errs A S w) (h2 : 2 ∈ S) (h4 : 4 ∈ S) (h7 : 7 ∈ S) (h8 : 8 ∈ S) :
    Calls Tryd.prog 78 #[] w fun e w' => e = .returned (.bool true) ∧ Below w.heap.size w w' := by
  have HE := Lib.hid hE; clear hE
  obtain ⟨o1, o2, o3, o4, o5⟩ := joined_ops
  have O1 := Lib.hid o1; have O2 := Lib.hid o2; have O3 := Lib.hid o3; have O4 := Lib.hid o4; have O5 := Lib.hid o5
  clear o1 o2 o3 o4 o5
  go_enter Tryd.func78, Tryd.ntmps78
  go_wp2_with fail
  refine (pool_New _).mono ?_
  rintro e w1 ⟨mb, rfl, hb1, hmb, hp1⟩
  have L1 := Lib.hid (PoolLoop.mk hp1 hb1 (Nat.le_succ _) hmb)
  clear hb1 hp1
  go_wp2_with fail
  refine (pool_Join A S _ mb 0 _ _ _ _ (HE.out.below L1.out.below) h2 h7 h8 L1.out.pool (by decide)).mono ?_
  rintro e w2 ⟨rfl, k2⟩
  rw [O1.out] at k2 ⊢
  have L2 := Lib.hid (L1.out.step k2)
  clear k2
  simp only [ev_nil]
  go_wp2_with fail
  refine (pool_Add A S _ mb 1 _ _ _ (HE.out.below L2.out.below) h2 h4 L2.out.pool).mono ?_
  rintro e w3 ⟨rfl, k3⟩
  rw [O2.out] at k3 ⊢
  have L3 := Lib.hid (L2.out.step k3)
  clear k3
  simp only [ev_nil]
  go_wp2_with fail
  refine (pool_Join A S _ mb 2 _ _ _ _ (HE.out.below L3.out.below) h2 h7 h8 L3.out.pool (by decide)).mono ?_
  rintro e w4 ⟨rfl, k4⟩
  rw [O3.out] at k4 ⊢
  have L4 := Lib.hid (L3.out.step k4)
  clear k4
  simp only [ev_nil]
  go_wp2_with fail
  refine (pool_Shares _ mb _ _ _ _ L4.out.pool (by decide)).mono ?_
  rintro e w5 ⟨rfl, rfl⟩
  rw [O4.out]
  go_wp2_with fail
  refine (pool_Value A S _ mb _ _ _ _ (HE.out.below L4.out.below) h2 L4.out.pool (by decide)).mono ?_
  rintro e w5 ⟨rfl, hd⟩
  rw [O5.out]
  have L5 := Lib.hid (L4.out.dr hd)
  go_wp2
  go_ret
  exact ⟨rfl, L5.out.below⟩
end Go.Proofs.YtajnfkmkombajabDoor
