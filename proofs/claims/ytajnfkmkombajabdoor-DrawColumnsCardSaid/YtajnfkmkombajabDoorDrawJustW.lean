/- The walk of DrawJust. -/
import Derived.Test.YtajnfkmkombajabDoorDrawOps
import Derived.Test.YtajnfkmkombajabDoorOwnInts
import Derived.Deep.RegionWith
set_option linter.unusedVariables false
set_option linter.unusedSimpArgs false
namespace Go.Proofs.YtajnfkmkombajabDoor
open Go.RowKit

theorem drawn_facts : weightsF [1, 3] = (0, -1) ∧ ([1, 3] : List Int).sum = 4 ∧ pickOf (vose [1, 3]) 0 2 = 1 := ⟨by rfl, by rfl, by rfl⟩

set_option maxRecDepth 8000 in
theorem law_drawn (A : Nat → Addr) (S : List Nat) (w : World) (hE : Errs A S w) (h2 : 2 ∈ S) (h3 : 3 ∈ S) (h4 : 4 ∈ S) :
    Calls Tryd.prog 42 #[] w fun e w' => e = .returned (.bool true) ∧ Below w.heap.size w w' := by
  obtain ⟨f1, f2, f3⟩ := drawn_facts
  have F1 := Lib.hid f1; have F2 := Lib.hid f2; have F3 := Lib.hid f3
  have HE := Lib.hid hE; clear hE f1 f2 f3
  have hW := fun (wx : World) (hx : RdI .i64 wx (some ⟨w.heap.size, 0, none⟩) 2 2 [1, 3]) (ex : Errs A S wx) => draw_New A S (some ⟨w.heap.size, 0, none⟩) 2 [1, 3] wx hx ex h2 h3 h4
  have HW := Lib.hid hW; clear hW
  go_enter Tryd.func42, Tryd.ntmps42
  go_wp2_with fail
  have R := RdI.of_rowAt (k := .i64) (zs := [1, 3]) (RowAt.new w 3 [.int .i64 1, .int .i64 3]) (by unfold maxLen; decide)
  have b0 := (Below.refl w.heap.size w).alloc (Nat.le_refl _) (.cells #[.int .i64 1, .int .i64 3] 3)
  refine (HW.out _ R (HE.out.below b0)).mono ?_
  rintro e w1 ⟨p, v, rfl, hv, hb1, hp⟩
  rw [F1.out] at hv hp
  have hv0 := hv.yes rfl rfl
  subst hv0
  obtain ⟨b, cb, rfl, _, _, D⟩ := (hp.resolve_left (by simp)).2
  have b1 := btrans b0 hb1
  have HD := Lib.hid D
  clear R b0 hv hb1 hp D HW
  go_wp2_with fail
  refine (draw_Height b cb [1, 3] _ HD.out).mono ?_
  rintro e w' ⟨rfl, rfl⟩
  rw [F2.out]
  go_wp2_with fail
  refine (draw_Columns b cb [1, 3] _ HD.out).mono ?_
  rintro e w' ⟨rfl, rfl⟩
  rw [show (([1, 3] : List Int).length : Int) = 2 from rfl]
  go_wp2_with fail
  refine (draw_Pick_in b cb [1, 3] 0 2 _ HD.out (by decide) (by decide) (by decide) (by rw [F2.out]; decide)).mono ?_
  rintro e w' ⟨rfl, n, rfl⟩
  rw [F3.out]
  go_wp2_with fail
  go_ret
  exact ⟨rfl, b1.drewN _⟩

/-- what DrawJust keeps, round by round -/
structure JustLoop (W : World) (b cb rb : Nat) (zs : List Int) (c : List Int) (w : World) : Prop where
  below : Below W.heap.size W w
  d : DrawAt b cb zs w
  r : RowAt rb 3 (c.map (Value.int .i64)) w
  nr : W.heap.size ≤ rb
  br : b < rb
  cr : cb < rb
theorem JustLoop.drewN {W w : World} {b cb rb : Nat} {zs c : List Int} (h : JustLoop W b cb rb zs c w) (n : Nat) : JustLoop W b cb rb zs c (w.drewN n) := ⟨h.below.drewN n, h.d.drewN n, h.r, h.nr, h.br, h.cr⟩
theorem JustLoop.put {W w : World} {b cb rb : Nat} {zs c : List Int} (h : JustLoop W b cb rb zs c w) (k : Nat) (x : Int) : JustLoop W b cb rb zs (c.set k x) (w.setCell ⟨rb, k, none⟩ (.int .i64 x)) := by
  have := h.br; have := h.cr
  refine ⟨h.below.setCell h.nr _, ⟨h.d.d.set_other (by simp only; omega) _, h.d.c.set_other (by simp only; omega) _⟩, ?_, h.nr, h.br, h.cr⟩
  rw [List.map_set]; exact h.r.set _ _
theorem JustLoop.cell {W w : World} {b cb rb : Nat} {zs c : List Int} (h : JustLoop W b cb rb zs c w) {k : Nat} (hk : k < c.length) : w.cell? ⟨rb, k, none⟩ = some (.int .i64 (c.getD k 0)) := by
  rw [h.r.cell, List.getElem?_map, List.getElem?_eq_getElem hk]; simp [hk]

end Go.Proofs.YtajnfkmkombajabDoor
