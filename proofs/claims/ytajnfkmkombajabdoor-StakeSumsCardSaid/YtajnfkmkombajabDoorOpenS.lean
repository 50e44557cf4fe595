/- A []Act argument of the stakes' laws, opened: it reads as acts. -/
import Derived.Test.YtajnfkmkombajabDoorProg
import Derived.Test.YtajnfkmkombajabDoorRdR
namespace Go.Proofs.YtajnfkmkombajabDoor
open Go.RowKit Go.ChangeShapes Go.WideShapes Go.Deep

/-- an act on stakes: its kind, owner, baker, number, cycle -/
structure ActS where
  kind : ByteArray
  owner : Int
  baker : Int
  n : Int
  cycle : Int
def ActS.enc (a : ActS) : List Value := [.string a.kind, .int .i64 a.owner, .int .i64 a.baker, .int .i64 a.n, .int .i64 a.cycle]
def ActS.wf (a : ActS) : Prop := a.kind.size ≤ maxLen ∧ (Lit.int .i64 a.owner).wf = true ∧ (Lit.int .i64 a.baker).wf = true ∧ (Lit.int .i64 a.n).wf = true ∧ (Lit.int .i64 a.cycle).wf = true

theorem sacts_of {H : Type} {enc : TypeId × Value → H} {W : World} {base : Nat} {spare : Nat → Bool} {held : Bool} {ao : Option Addr} {len cap : Nat} {d : DataW H} {p : List MemPlace}
    (h : DataW.Trod enc Tryd.prog W base spare held 116 (.slice ao len cap) d p) : ∃ l, RdR ActS.enc 5 W ao len cap l ∧ ∀ x ∈ l, x.wf := by
  obtain ⟨fuel, hf⟩ := h
  rcases open_slice_fields Tryd.underlying116 Tryd.underlying120 (by kernel_rfl) (by kernel_rfl) hf with ⟨hcs, _⟩ | ⟨a, l, c, m, D, Pl, hcs, _, hl, hm, hmm, _, hall⟩
  · simp [Value.cells] at hcs
    obtain ⟨rfl, rfl, rfl⟩ := hcs
    exact ⟨[], RdR.nil _ _ _, fun x hx => by cases hx⟩
  · simp [Value.cells] at hcs
    obtain ⟨rfl, rfl, rfl⟩ := hcs
    refine RdR.of_cells (Q := ActS.wf) (by decide) hl hm fun i hi => ?_
    obtain ⟨ys, n, _, _, _, hfs⟩ := hall i (by rw [hmm]; split <;> omega)
    obtain ⟨v0, y0, c0, _, t0⟩ := hfs 0 _ rfl
    obtain ⟨v1, y1, c1, _, t1⟩ := hfs 1 _ rfl
    obtain ⟨v2, y2, c2, _, t2⟩ := hfs 2 _ rfl
    obtain ⟨v3, y3, c3, _, t3⟩ := hfs 3 _ rfl
    obtain ⟨v4, y4, c4, _, t4⟩ := hfs 4 _ rfl
    obtain ⟨s, hs, _, ws⟩ := DataW.trod_string Tryd.underlying9 t0
    obtain ⟨x1, h1, _, w1⟩ := DataW.trod_int Tryd.underlying3 t1
    obtain ⟨x2, h2, _, w2⟩ := DataW.trod_int Tryd.underlying3 t2
    obtain ⟨x3, h3, _, w3⟩ := DataW.trod_int Tryd.underlying3 t3
    obtain ⟨x4, h4, _, w4⟩ := DataW.trod_int Tryd.underlying3 t4
    obtain rfl : v0 = .string s := by simpa using hs
    obtain rfl : v1 = .int .i64 x1 := by simpa using h1
    obtain rfl : v2 = .int .i64 x2 := by simpa using h2
    obtain rfl : v3 = .int .i64 x3 := by simpa using h3
    obtain rfl : v4 = .int .i64 x4 := by simpa using h4
    refine ⟨⟨s, x1, x2, x3, x4⟩, fun j hj => ?_, by simp [ActS.enc], ?_, w1, w2, w3, w4⟩
    · match j, hj with
      | 0, _ => exact c0
      | 1, _ => exact c1
      | 2, _ => exact c2
      | 3, _ => exact c3
      | 4, _ => exact c4
    · exact ws
end Go.Proofs.YtajnfkmkombajabDoor
