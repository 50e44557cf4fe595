/- A []api.Point argument, opened: it reads as points. -/
import Derived.Test.YtajnfkmkombajabDoorProg
import Derived.Test.YtajnfkmkombajabDoorPlBend
import Derived.Deep.SlicePairs
import Derived.OpenShut
import Derived.Sort.WalkA
set_option linter.unusedVariables false
set_option linter.unusedSimpArgs false
namespace Go.Proofs.YtajnfkmkombajabDoor
open Go.RowKit Go.ChangeShapes Go.WideShapes Go.Deep

theorem Tryd.cellsPoint : Tryd.prog.cellsOf 148 = 2 := by kernel_rfl
theorem Tryd.cellsInt : Tryd.prog.cellsOf 3 = 1 := by kernel_rfl

theorem points_of {H : Type} {enc : TypeId × Value → H} {W : World} {base : Nat} {spare : Nat → Bool} {held : Bool} {ao : Option Addr} {len cap : Nat} {d : DataW H} {p : List MemPlace}
    (h : DataW.Trod enc Tryd.prog W base spare held 87 (.slice ao len cap) d p) : ∃ l, RdP W ao len cap l := by
  obtain ⟨fuel, hf⟩ := h
  rcases open_slice_pairs Tryd.underlying87 Tryd.underlying148 Tryd.cellsPoint rfl rfl Tryd.cellsInt Tryd.cellsInt hf with ⟨hcs, _⟩ | ⟨a, l, c, m, n, V0, V1, D0, D1, P0, P1, hcs, _, hl, hm, hmm, _, hall⟩
  · simp [Value.cells] at hcs
    obtain ⟨rfl, rfl, rfl⟩ := hcs
    exact ⟨[], rfl, Nat.le_refl _, by decide, fun _ => rfl, fun _ h => (by cases h), fun i h => by omega⟩
  · simp [Value.cells] at hcs
    obtain ⟨rfl, rfl, rfl⟩ := hcs
    have hlm : len ≤ m := by rw [hmm]; split <;> omega
    have hv : ∀ i, i < len → ∃ x y : Int, V0 i = .int .i64 x ∧ V1 i = .int .i64 y ∧ (Lit.int .i64 x).wf = true ∧ (Lit.int .i64 y).wf = true := fun i hi => by
      obtain ⟨_, _, h0, h1⟩ := hall i (by omega)
      obtain ⟨x, hx, _, wx⟩ := DataW.trod_int Tryd.underlying3 h0
      obtain ⟨y, hy, _, wy⟩ := DataW.trod_int Tryd.underlying3 h1
      exact ⟨x, y, by simpa using hx, by simpa using hy, wx, wy⟩
    have hg : ∀ i, i < len → ((List.range len).map fun i => (intOf (V0 i), intOf (V1 i))).getD i (0, 0) = (intOf (V0 i), intOf (V1 i)) := fun i hi => by
      simp [List.getD_eq_getElem?_getD, hi]
    refine ⟨(List.range len).map fun i => (intOf (V0 i), intOf (V1 i)), by simp, hl, hm, fun h => (by cases h), fun q hq => ?_, fun i hi => ?_⟩
    · obtain ⟨i, hi, rfl⟩ := List.mem_map.1 hq
      obtain ⟨x, y, e0, e1, wx, wy⟩ := hv i (List.mem_range.1 hi)
      rw [e0, e1]
      simp only [intOf]
      simp [Lit.wf] at wx wy
      have m1 : IntKind.i64.min = -9223372036854775808 := by decide
      have m2 : IntKind.i64.max = 9223372036854775807 := by decide
      exact ⟨by omega, by omega⟩
    · obtain ⟨c0, c1, _, _⟩ := hall i (by omega)
      have hs : (a.add (i * 2)).spot = none := World.cell?_spot c0
      obtain ⟨b, off, spot⟩ := a
      have hs0 : spot = none := by
        by_cases h0 : i * 2 = 0
        · rw [h0] at hs; simpa [Addr.add] using hs
        · obtain ⟨z0, _, _, _⟩ := hall 0 (by omega)
          have h0c := World.cell?_spot z0; simpa [Addr.add] using h0c
      subst hs0
      have e : ∀ j, (⟨b, off, none⟩ : Addr).add j = ⟨b, off + j, none⟩ := fun j => by unfold Addr.add; split <;> simp_all
      obtain ⟨x, y, e0, e1, _, _⟩ := hv i hi
      refine ⟨b, off, rfl, ?_, ?_⟩
      · rw [hg i hi, ← e, c0, e0]; rfl
      · rw [hg i hi, Nat.add_assoc, ← e, c1, e1]; rfl
end Go.Proofs.YtajnfkmkombajabDoor
