/- The listed errors stand while blocks of others turn. -/
import Derived.Test.YtajnfkmkombajabDoorErr
import Derived.Test.YtajnfkmkombajabDoorKeep
set_option linter.unusedVariables false
set_option linter.unusedSimpArgs false
namespace Go.Proofs.YtajnfkmkombajabDoor
open Go.RowKit

theorem Errs.keep {A : Nat → Addr} {S : List Nat} {w w' : World} {F : Nat → Prop} (h : Errs A S w) (k : Keep F w w') (hF : ∀ c ∈ S, ¬ F (gE c)) : Errs A S w' :=
  ⟨fun c hc => by rw [k.cell (p := ⟨gE c, 0, none⟩) (World.block_lt_of_cell? w _ (h.cell c hc)) (hF c hc)]; exact h.cell c hc⟩
theorem Errs.lt {A : Nat → Addr} {S : List Nat} {w : World} (h : Errs A S w) {c : Nat} (hc : c ∈ S) : gE c < w.heap.size := World.block_lt_of_cell? w _ (h.cell c hc)
end Go.Proofs.YtajnfkmkombajabDoor
