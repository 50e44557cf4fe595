/- What an error value is, by its number and place. -/
import Derived.Test.YtajnfkmkombajaaDoorErr
set_option linter.unusedVariables false
set_option linter.unusedSimpArgs false
namespace Go.Proofs.YtajnfkmkombajaaDoor
open Go.RowKit

/-- an error as it is told: its number, and its place (-1: bare; else an *api.Fault that the call has made) -/
def ErrIs (A : Nat → Addr) (w w' : World) (v : Value) (f : Nat × Int) : Prop :=
  (f.2 = -1 ∧ v = ev A f.1) ∨ (0 ≤ f.2 ∧ ∃ g : Nat, w.heap.size ≤ g ∧ v = .iface 70 (.pointer (some ⟨g, 0, none⟩)) ∧ w'.cell? ⟨g, 0, none⟩ = some (.int .i64 f.2) ∧ w'.cell? ⟨g, 1, none⟩ = some (ev A f.1))

theorem ErrIs.bare {A : Nat → Addr} {w w' : World} {c : Nat} : ErrIs A w w' (ev A c) (c, -1) := .inl ⟨rfl, rfl⟩
theorem ErrIs.nil {A : Nat → Addr} {w w' : World} : ErrIs A w w' .nilIface (0, -1) := .inl ⟨rfl, rfl⟩
theorem ErrIs.later {A : Nat → Addr} {w w1 w2 : World} {v : Value} {f : Nat × Int} (h : ErrIs A w w1 v f) (hk : ∀ g o, w.heap.size ≤ g → g < w1.heap.size → w2.cell? ⟨g, o, none⟩ = w1.cell? ⟨g, o, none⟩) : ErrIs A w w2 v f := by
  rcases h with h | ⟨h0, g, hg, hv, c0, c1⟩
  · exact .inl h
  · exact .inr ⟨h0, g, hg, hv, by rw [hk g 0 hg (World.block_lt_of_cell? _ _ c0)]; exact c0, by rw [hk g 1 hg (World.block_lt_of_cell? _ _ c1)]; exact c1⟩
theorem ErrIs.since {A : Nat → Addr} {w0 w w' : World} {v : Value} {f : Nat × Int} (h : ErrIs A w w' v f) (hs : w0.heap.size ≤ w.heap.size) : ErrIs A w0 w' v f := by
  rcases h with h | ⟨h0, g, hg, r⟩
  · exact .inl h
  · exact .inr ⟨h0, g, Nat.le_trans hs hg, r⟩
/-- only whether it is nil -/
theorem ErrIs.yes {A : Nat → Addr} {w w' : World} {v : Value} {f : Nat × Int} (h : ErrIs A w w' v f) (hf : f.1 = 0) (hn : f.2 = -1) : v = .nilIface := by
  rcases h with ⟨_, h⟩ | ⟨h, _⟩
  · rw [h, hf]; rfl
  · omega
theorem ErrIs.no {A : Nat → Addr} {w w' : World} {v : Value} {f : Nat × Int} (h : ErrIs A w w' v f) (hf : f.1 ≠ 0) : ∃ t x, v = .iface t (.pointer (some x)) := by
  rcases h with ⟨_, h⟩ | ⟨_, g, _, h, _⟩
  · exact ⟨_, _, by rw [h, ev_some A hf]⟩
  · exact ⟨_, _, h⟩
end Go.Proofs.YtajnfkmkombajaaDoor
