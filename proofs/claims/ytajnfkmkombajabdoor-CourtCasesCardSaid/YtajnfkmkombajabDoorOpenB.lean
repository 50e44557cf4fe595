/- A []Brought argument of the court's laws, opened: it reads as what is brought. -/
import Derived.Test.YtajnfkmkombajabDoorProg
import Derived.Test.YtajnfkmkombajabDoorRdR
import Derived.Test.YtajnfkmkombajabDoorCourtKey
set_option linter.unusedVariables false
set_option linter.unusedSimpArgs false
namespace Go.Proofs.YtajnfkmkombajabDoor
open Go.RowKit Go.ChangeShapes Go.WideShapes Go.Deep

/-- what is brought: by whom, the evidence, the cycle of now; whether cases are asked for first -/
structure Brt where
  owner : Int
  e : EV
  cycle : Int
  due : Bool
def Brt.enc (a : Brt) : List Value := [.int .i64 a.owner, .int .i64 a.e.b, .int .i64 a.e.c, .int .i64 a.e.n, .int .i64 a.cycle, .bool a.due]
def Brt.wf (a : Brt) : Prop := (Lit.int .i64 a.owner).wf = true ∧ a.e.wf ∧ (Lit.int .i64 a.cycle).wf = true

set_option maxRecDepth 8000 in
theorem brought_of {H : Type} {enc : TypeId × Value → H} {W : World} {base : Nat} {spare : Nat → Bool} {held : Bool} {ao : Option Addr} {len cap : Nat} {d : DataW H} {p : List MemPlace}
    (h : DataW.Trod enc Tryd.prog W base spare held 22 (.slice ao len cap) d p) : ∃ l, RdR Brt.enc 6 W ao len cap l ∧ ∀ x ∈ l, x.wf := by
  obtain ⟨fuel, hf⟩ := h
  have hC : Tryd.prog.cellsOf 30 = 6 := by kernel_rfl
  have hE : Tryd.prog.cellsOf 28 = 3 := by kernel_rfl
  have hI : Tryd.prog.cellsOf 3 = 1 := by kernel_rfl
  have hB : Tryd.prog.cellsOf 4 = 1 := by kernel_rfl
  rcases open_slice Tryd.underlying22 hf with ⟨hcs, _⟩ | ⟨a, l, c, m, n, D, Pl, hcs, _, hl, hm, hmm, _, hall⟩
  · simp [Value.cells] at hcs
    obtain ⟨rfl, rfl, rfl⟩ := hcs
    exact ⟨[], RdR.nil _ _ _, fun x hx => by cases hx⟩
  · simp [Value.cells] at hcs
    obtain ⟨rfl, rfl, rfl⟩ := hcs
    refine RdR.of_cells (Q := Brt.wf) (by decide) hl hm fun i hi => ?_
    obtain ⟨cs, hc, ht⟩ := hall i (by rw [hmm]; split <;> omega)
    rw [hC] at hc
    obtain ⟨ys, n1, _, _, hlen, hyl, hfs⟩ := DataW.trod_struct Tryd.underlying30 ht
    obtain ⟨_, hcl, hat⟩ := World.cells?_some hc
    rw [hC] at hlen
    have hy : ∀ i, i < ys.length → ∃ y, ys[i]? = some y := fun i hi => ⟨_, List.getElem?_eq_getElem hi⟩
    have hyn : ys.length = 4 := hyl
    obtain ⟨y0, e0⟩ := hy 0 (by omega)
    obtain ⟨y1, e1⟩ := hy 1 (by omega)
    obtain ⟨y2, e2⟩ := hy 2 (by omega)
    obtain ⟨y3, e3⟩ := hy 3 (by omega)
    have t0 : DataW.trod enc Tryd.prog W base spare held n1 3 ((cs.drop 0).take (Tryd.prog.cellsOf 3)) = some y0 := (hfs 0 _ rfl).trans e0
    have t1 : DataW.trod enc Tryd.prog W base spare held n1 28 ((cs.drop 1).take (Tryd.prog.cellsOf 28)) = some y1 := (hfs 1 _ rfl).trans e1
    have t2 : DataW.trod enc Tryd.prog W base spare held n1 3 ((cs.drop 4).take (Tryd.prog.cellsOf 3)) = some y2 := (hfs 2 _ rfl).trans e2
    have t3 : DataW.trod enc Tryd.prog W base spare held n1 4 ((cs.drop 5).take (Tryd.prog.cellsOf 4)) = some y3 := (hfs 3 _ rfl).trans e3
    match cs, hlen with
    | [v0, v1, v2, v3, v4, v5], _ =>
      simp only [hI, hE, hB, List.drop_zero, List.drop_succ_cons, List.take_succ_cons, List.take_zero] at t0 t1 t2 t3
      obtain ⟨x0, h0, _, w0⟩ := DataW.trod_int Tryd.underlying3 t0
      obtain ⟨zs, n2, _, _, _, hzl, hgs⟩ := DataW.trod_struct Tryd.underlying28 t1
      have hz : ∀ i, i < zs.length → ∃ y, zs[i]? = some y := fun i hi => ⟨_, List.getElem?_eq_getElem hi⟩
      have hzn : zs.length = 3 := hzl
      obtain ⟨z0, d0⟩ := hz 0 (by omega)
      obtain ⟨z1, d1⟩ := hz 1 (by omega)
      obtain ⟨z2, d2⟩ := hz 2 (by omega)
      have s0 : DataW.trod enc Tryd.prog W base spare held n2 3 (([v1, v2, v3].drop 0).take (Tryd.prog.cellsOf 3)) = some z0 := (hgs 0 _ rfl).trans d0
      have s1 : DataW.trod enc Tryd.prog W base spare held n2 3 (([v1, v2, v3].drop 1).take (Tryd.prog.cellsOf 3)) = some z1 := (hgs 1 _ rfl).trans d1
      have s2 : DataW.trod enc Tryd.prog W base spare held n2 3 (([v1, v2, v3].drop 2).take (Tryd.prog.cellsOf 3)) = some z2 := (hgs 2 _ rfl).trans d2
      simp only [hI, List.drop_zero, List.drop_succ_cons, List.take_succ_cons, List.take_zero] at s0 s1 s2
      obtain ⟨x1, h1, _, w1⟩ := DataW.trod_int Tryd.underlying3 s0
      obtain ⟨x2, h2, _, w2⟩ := DataW.trod_int Tryd.underlying3 s1
      obtain ⟨x3, h3, _, w3⟩ := DataW.trod_int Tryd.underlying3 s2
      obtain ⟨x4, h4, _, w4⟩ := DataW.trod_int Tryd.underlying3 t2
      obtain ⟨x5, h5, _⟩ := DataW.trod_bool Tryd.underlying4 t3
      obtain rfl : v0 = .int .i64 x0 := by simpa using h0
      obtain rfl : v1 = .int .i64 x1 := by simpa using h1
      obtain rfl : v2 = .int .i64 x2 := by simpa using h2
      obtain rfl : v3 = .int .i64 x3 := by simpa using h3
      obtain rfl : v4 = .int .i64 x4 := by simpa using h4
      obtain rfl : v5 = .bool x5 := by simpa using h5
      refine ⟨⟨x0, ⟨x1, x2, x3⟩, x4, x5⟩, fun j hj => ?_, by simp [Brt.enc], w0, ⟨w1, w2, w3⟩, w4⟩
      rw [← Go.Deep.add_add, hat j hj]
      rfl
end Go.Proofs.YtajnfkmkombajabDoor
