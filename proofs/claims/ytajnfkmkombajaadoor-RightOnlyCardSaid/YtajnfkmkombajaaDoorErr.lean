/- The sentinels of package api: what an error's number is as a value, and that the listed ones lie where the program's text lays them. -/
import Derived.Test.YtajnfkmkombajaaDoorProg
import Derived.Test.YtajnfkmkombajaaDoorBase
set_option linter.unusedVariables false
set_option linter.unusedSimpArgs false
namespace Go.Proofs.YtajnfkmkombajaaDoor
open Go.RowKit

/-- where the variable of error number c lies -/
def gE : Nat → Nat
  | 1 => 0
  | 2 => 1
  | 3 => 2
  | 4 => 3
  | 5 => 4
  | 6 => 5
  | 7 => 6
  | 8 => 7
  | 9 => 8
  | 10 => 9
  | _ => 0

/-- error number c as a value: 0 is nil -/
def ev (A : Nat → Addr) (c : Nat) : Value := if c = 0 then .nilIface else .iface 111 (.pointer (some (A c)))
theorem ev_nil (A : Nat → Addr) : ev A 0 = .nilIface := rfl
theorem ev_some (A : Nat → Addr) {c : Nat} (h : c ≠ 0) : ev A c = .iface 111 (.pointer (some (A c))) := if_neg h

/-- the variables of the listed errors hold them -/
structure Errs (A : Nat → Addr) (S : List Nat) (w : World) : Prop where
  cell : ∀ c, c ∈ S → w.cell? ⟨gE c, 0, none⟩ = some (ev A c)

theorem Errs.below {A : Nat → Addr} {S : List Nat} {w w' : World} (h : Errs A S w) (hb : Below w.heap.size w w') : Errs A S w' :=
  ⟨fun c hc => by rw [hb.cell (p := ⟨gE c, 0, none⟩) (World.block_lt_of_cell? w _ (h.cell c hc))]; exact h.cell c hc⟩
theorem Errs.drewN {A : Nat → Addr} {S : List Nat} {w : World} (h : Errs A S w) (n : Nat) : Errs A S (w.drewN n) := ⟨fun c hc => h.cell c hc⟩

/-- only the draws have gone on -/
def Dr (w w' : World) : Prop := ∃ n, w.drewN n = w'
theorem Dr.refl (w : World) : Dr w w := ⟨0, rfl⟩
theorem Dr.trans {a b c : World} (h : Dr a b) (k : Dr b c) : Dr a c := by
  obtain ⟨n, rfl⟩ := h; obtain ⟨m, rfl⟩ := k; exact ⟨n + m, by simp [World.drewN, Nat.add_assoc]⟩
theorem Dr.drew (w : World) : Dr w w.drew := ⟨1, rfl⟩
theorem Dr.below {w w' : World} (h : Dr w w') : Below w.heap.size w w' := by
  obtain ⟨n, rfl⟩ := h; exact ⟨rfl, rfl, rfl, Nat.le_refl _, fun _ _ => rfl⟩
end Go.Proofs.YtajnfkmkombajaaDoor
