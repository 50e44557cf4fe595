/- A court in memory that is new; the closed fact of the court's laws. -/
import Derived.Test.YtajnfkmkombajabDoorCourt3
import Derived.Test.YtajnfkmkombajabDoorCoded2
import Derived.Test.YtajnfkmkombajabDoorSents
import Derived.Deep.RegionWith
import Derived.Deep.DeepCutAuto
import Derived.Deep.CutBlock
set_option linter.unusedVariables false
set_option linter.unusedSimpArgs false
namespace Go.Proofs.YtajnfkmkombajabDoor
open Go.RowKit Go.Maps

/-- a court in memory that is new since W -/
structure CU (W : World) (kb : Nat) (F : Nat → Prop) (n : Nat) (k : KS) (w : World) : Prop where
  below : Below W.heap.size W w
  ct : CourtAt kb F n k w
  new : ∀ b, F b → W.heap.size ≤ b
section
variable {W w w' : World} {kb n m : Nat} {F : Nat → Prop} {k k' : KS}
theorem CU.of (h : CU W kb F n k w) (p : CourtP kb F m k' w w') : CU W kb (grownF F w w') m k' w' :=
  ⟨Keep.after h.below p.1 h.new, p.2, fun b hb => by rcases hb with hb | hb; exact h.new b hb; exact Nat.le_trans h.below.size hb.1⟩
theorem CU.next (h : CU W kb F n k w) (b : Below w.heap.size w w') : CU W kb F n k w' := ⟨btrans h.below b, h.ct.below b, h.new⟩
theorem CU.due (h : CU W kb F n k w) (K : Keep F w w') (c : CourtAt kb F n k' w') : CU W kb F n k' w' := ⟨Keep.after h.below K h.new, c, h.new⟩
theorem CU.keep {G : Nat → Prop} (h : CU W kb F n k w) (K : Keep G w w') (hG : ∀ b, G b → W.heap.size ≤ b) (hd : ∀ b, F b → ¬ G b) : CU W kb F n k w' := ⟨Keep.after h.below K hG, h.ct.keep K hd, h.new⟩
theorem CU.fe {A : Nat → Addr} {S : List Nat} (h : CU W kb F n k w) (hE : Errs A S W) : ∀ c ∈ S, ¬ F (gE c) := fun c hc hf => by have := h.new _ hf; have := World.block_lt_of_cell? W _ (hE.cell c hc); simp only at this; omega
end

/-- a court, and the evidence in a box beside it -/
structure CBox (W : World) (kb : Nat) (F : Nat → Prop) (n : Nat) (k : KS) (g : Nat) (e : EV) (w : World) : Prop where
  cu : CU W kb F n k w
  gF : ¬ F g
  glt : g < w.heap.size
  e0 : w.cell? ⟨g, 0, none⟩ = some (.int .i64 e.b)
  e1 : w.cell? ⟨g, 1, none⟩ = some (.int .i64 e.c)
  e2 : w.cell? ⟨g, 2, none⟩ = some (.int .i64 e.n)
section
variable {W w w' : World} {kb n m g : Nat} {F : Nat → Prop} {k k' : KS} {e : EV}
theorem CBox.of (h : CBox W kb F n k g e w) (p : CourtP kb F m k' w w') : CBox W kb (grownF F w w') m k' g e w' :=
  ⟨h.cu.of p, (fun hb => by rcases hb with hb | hb; exact h.gF hb; have := h.glt; omega), Nat.lt_of_lt_of_le h.glt p.1.size, by rw [p.1.cell (p := ⟨g, 0, none⟩) h.glt h.gF]; exact h.e0, by rw [p.1.cell (p := ⟨g, 1, none⟩) h.glt h.gF]; exact h.e1, by rw [p.1.cell (p := ⟨g, 2, none⟩) h.glt h.gF]; exact h.e2⟩
theorem CBox.next (h : CBox W kb F n k g e w) (p : Below w.heap.size w w') : CBox W kb F n k g e w' :=
  ⟨h.cu.next p, h.gF, Nat.lt_of_lt_of_le h.glt p.size, by rw [p.cell (p := ⟨g, 0, none⟩) h.glt]; exact h.e0, by rw [p.cell (p := ⟨g, 1, none⟩) h.glt]; exact h.e1, by rw [p.cell (p := ⟨g, 2, none⟩) h.glt]; exact h.e2⟩
theorem CU.box (h : CU W kb F n k w) (b c d : Int) (t : TypeId) : CBox W kb F n k w.heap.size ⟨b, c, d⟩ (w.alloc (.cells #[.int .i64 b, .int .i64 c, .int .i64 d] t)) := by
  have hn := heap_alloc_new w (.cells #[.int .i64 b, .int .i64 c, .int .i64 d] t)
  refine ⟨h.next ((Below.refl _ w).alloc (Nat.le_refl _) _), fun hf => by have := h.ct.lt _ hf; omega, by simp, ?_, ?_, ?_⟩
  all_goals (unfold World.cell?; rw [hn]; simp)
end

theorem judged_facts : ∃ k1 k2 : KS, KS.new.accuse 2 ⟨1, 3, 7⟩ 4 = (0, k1) ∧ k1.accuse 3 ⟨1, 3, 7⟩ 4 = (5, k1) ∧ k1.due.length = 1 ∧ k1.L.length ≤ 10 ∧ k2 = k1.asked := ⟨⟨[(2, ⟨1, 3, 7⟩)], 0⟩, _, rfl, rfl, rfl, by decide, rfl⟩

set_option maxRecDepth 8000 in
set_option maxHeartbeats 1000000 in
theorem law_judged (A : Nat → Addr) (w : World) (hS : Sents A w) :
    Calls Tryd.prog 14 #[] w fun e w' => e = .returned (.bool true) ∧ Below w.heap.size w w' := by
  have HS := Lib.hid hS; clear hS
  have m2 : (2 : Nat) ∈ [1, 2, 3, 4, 5, 6, 7, 8, 9, 10] := by decide
  have m5 : (5 : Nat) ∈ [1, 2, 3, 4, 5, 6, 7, 8, 9, 10] := by decide
  have m10 : (10 : Nat) ∈ [1, 2, 3, 4, 5, 6, 7, 8, 9, 10] := by decide
  have ewf : (EV.mk 1 3 7).wf := by unfold EV.wf; decide
  obtain ⟨k1, k2, f1, f2, f3, f4, f5⟩ := judged_facts
  have F1 := Lib.hid f1; have F2 := Lib.hid f2; have F3 := Lib.hid f3; have F4 := Lib.hid f4
  clear f1 f2 f3 f4 f5 k2
  go_enter Tryd.func14, Tryd.ntmps14
  go_wp2_with fail
  refine (court_New _).mono ?_
  rintro e w1 ⟨rfl, hb1, hc1⟩
  have U1 := Lib.hid (show CU w (w.heap.size + 1) (fun b => b = w.heap.size ∨ b = w.heap.size + 1) 0 KS.new w1 from ⟨hb1, hc1, fun b hb => by rcases hb with rfl | rfl <;> omega⟩)
  clear hb1 hc1
  generalize w.heap.size + 1 = kb at *
  have B1 := Lib.hid (U1.out.box 1 3 7 28)
  go_wp2_with fail
  refine (court_Accuse A [1, 2, 3, 4, 5, 6, 7, 8, 9, 10] kb _ 0 KS.new 2 ⟨1, 3, 7⟩ 4 _ B1.out.cu.ct (HS.out.below B1.out.cu.below).errs m2 m5 m10 ewf (by omega) (by decide)).mono ?_
  rintro e w2 ⟨rfl, h⟩
  rw [F1.out] at h ⊢
  simp only [ev_nil]
  have B2 := Lib.hid (B1.out.of h); clear h
  have d0 := B2.out.e0; have d1 := B2.out.e1; have d2 := B2.out.e2
  go_wp2_with fail
  refine (court_Accuse A [1, 2, 3, 4, 5, 6, 7, 8, 9, 10] kb _ 1 k1 3 ⟨1, 3, 7⟩ 4 _ B2.out.cu.ct (HS.out.below B2.out.cu.below).errs m2 m5 m10 ewf (by omega) (by have := F4.out; omega)).mono ?_
  rintro e w3 ⟨rfl, h⟩
  rw [F2.out] at h ⊢
  simp only
  have B3 := Lib.hid (B2.out.of h); clear h
  go_wp2_with fail
  refine (law2_coded A 5 (by decide) _ (HS.out.below B3.out.cu.below)).mono ?_
  rintro e w4 ⟨rfl, hb⟩
  have B4 := Lib.hid (B3.out.next hb); clear hb
  go_wp2_with fail
  refine (court_Due kb _ 2 k1 _ B4.out.cu.ct (by have := F4.out; omega)).mono ?_
  rintro e w5 ⟨v, rfl, ho, hK, hc⟩
  obtain ⟨ao, cap, rfl⟩ := own_shape ho
  have U5 := Lib.hid (B4.out.cu.due hK hc)
  rw [F3.out]
  clear ho hK hc
  go_wp2_with fail
  refine (court_Percent 7 _).mono ?_
  rintro e w6 ⟨rfl, rfl⟩
  rw [show pct 7 = 50 from rfl]
  go_wp2_with fail
  go_ret
  exact ⟨rfl, U5.out.below⟩
end Go.Proofs.YtajnfkmkombajabDoor
