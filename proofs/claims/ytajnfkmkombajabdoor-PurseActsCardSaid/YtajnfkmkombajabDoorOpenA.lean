/- A []Act argument of the pools' and purses' laws, opened: it reads as acts. -/
import Derived.Test.YtajnfkmkombajabDoorProg
import Derived.Test.YtajnfkmkombajabDoorRdR
set_option linter.unusedVariables false
set_option linter.unusedSimpArgs false
namespace Go.Proofs.YtajnfkmkombajabDoor
open Go.RowKit Go.ChangeShapes Go.WideShapes Go.Deep

/-- an act: its kind, owner, number -/
structure ActA where
  kind : ByteArray
  owner : Int
  n : Int
def ActA.enc (a : ActA) : List Value := [.string a.kind, .int .i64 a.owner, .int .i64 a.n]
def ActA.wf (a : ActA) : Prop := a.kind.size ≤ maxLen ∧ (-9223372036854775808 ≤ a.owner ∧ a.owner ≤ 9223372036854775807) ∧ (-9223372036854775808 ≤ a.n ∧ a.n ≤ 9223372036854775807)

theorem int_bd {x : Int} (wx : (Lit.int .i64 x).wf = true) : -9223372036854775808 ≤ x ∧ x ≤ 9223372036854775807 := by
  simp [Lit.wf] at wx
  have m1 : IntKind.i64.min = -9223372036854775808 := by decide
  have m2 : IntKind.i64.max = 9223372036854775807 := by decide
  omega

theorem acts_of {H : Type} {enc : TypeId × Value → H} {W : World} {base : Nat} {spare : Nat → Bool} {held : Bool} {ao : Option Addr} {len cap : Nat} {d : DataW H} {p : List MemPlace}
    (h : DataW.Trod enc Tryd.prog W base spare held 50 (.slice ao len cap) d p) : ∃ l, RdR ActA.enc 3 W ao len cap l ∧ ∀ x ∈ l, x.wf := by
  obtain ⟨fuel, hf⟩ := h
  rcases open_slice_fields Tryd.underlying50 Tryd.underlying57 (by kernel_rfl) (by kernel_rfl) hf with ⟨hcs, _⟩ | ⟨a, l, c, m, D, Pl, hcs, _, hl, hm, hmm, _, hall⟩
  · simp [Value.cells] at hcs
    obtain ⟨rfl, rfl, rfl⟩ := hcs
    exact ⟨[], RdR.nil _ _ _, fun x hx => by cases hx⟩
  · simp [Value.cells] at hcs
    obtain ⟨rfl, rfl, rfl⟩ := hcs
    refine RdR.of_cells (Q := ActA.wf) (by decide) hl hm fun i hi => ?_
    obtain ⟨ys, n, _, _, _, hfs⟩ := hall i (by rw [hmm]; split <;> omega)
    obtain ⟨v0, y0, c0, _, t0⟩ := hfs 0 _ rfl
    obtain ⟨v1, y1, c1, _, t1⟩ := hfs 1 _ rfl
    obtain ⟨v2, y2, c2, _, t2⟩ := hfs 2 _ rfl
    obtain ⟨s, hs, _, ws⟩ := DataW.trod_string Tryd.underlying9 t0
    obtain ⟨x, hx, _, wx⟩ := DataW.trod_int Tryd.underlying3 t1
    obtain ⟨y, hy, _, wy⟩ := DataW.trod_int Tryd.underlying3 t2
    obtain rfl : v0 = .string s := by simpa using hs
    obtain rfl : v1 = .int .i64 x := by simpa using hx
    obtain rfl : v2 = .int .i64 y := by simpa using hy
    refine ⟨⟨s, x, y⟩, fun j hj => ?_, by simp [ActA.enc], ?_, int_bd wx, int_bd wy⟩
    · match j, hj with
      | 0, _ => exact c0
      | 1, _ => exact c1
      | 2, _ => exact c2
    · exact ws
end Go.Proofs.YtajnfkmkombajabDoor
