/- Contract of the document's SameInts, at the same numbers. -/
import Derived.Test.YtajnfkmkombajaaDoorProg
import Derived.Test.YtajnfkmkombajaaDoorBase
import Derived.Test.YtajnfkmkombajaaDoorErr
import Derived.Deep.QuietTactic
import Derived.BigQuiet
set_option linter.unusedVariables false
set_option linter.unusedSimpArgs false
namespace Go.Proofs.YtajnfkmkombajaaDoor
open Go.RowKit

set_option maxHeartbeats 400000 in
theorem ref_SameInts (ax ay : Option Addr) (n cx cy : Nat) (xs : List Int) (w : World) (RX : RdI .i64 w ax n cx xs) (RY : RdI .i64 w ay n cy xs) :
    Calls Tryd.prog 52 #[.slice ax n cx, .slice ay n cy] w fun e w' => e = .returned (.bool true) ∧ Dr w w' := by
  have hm : n ≤ 9223372036854775807 := by have := RX.lc; have := RX.cm; unfold maxLen at *; omega
  have HX := Lib.hid RX; have HY := Lib.hid RY
  have hne : ((n : Int) != (n : Int)) = false := bne_self_eq_false _
  clear RX RY
  go_enter Tryd.func52, Tryd.ntmps52
  go_wp2_with fail
  go_loopw [5] (fun i wr => ∃ k : Nat, k ≤ n ∧ i = .int .i64 k ∧ Dr w wr) (fun i _ => n - (intOf i).toNat)
  case atStart => exact ⟨0, Nat.zero_le _, rfl, Dr.refl _⟩
  case round =>
    obtain ⟨k, hk, rfl, d, rfl⟩ := hrel
    by_cases hlt : k < n
    · obtain ⟨b, off, ha, hc⟩ := HX.out.cells k hlt
      obtain ⟨b', off', ha', hc'⟩ := HY.out.cells k hlt
      have Ha := Lib.hid ha; have Ha' := Lib.hid ha'
      clear ha ha'
      have h1 := Ha.out; subst h1
      have h2 := Ha'.out; subst h2
      generalize xs.getD k 0 = x at *
      have hxx : (x != x) = false := bne_self_eq_false _
      have i0 : (0 : Int) ≤ (k : Int) := by omega
      have i1 : (k : Int) < (n : Int) := by omega
      go_wp2_with fail
      go_quiet (fail)
      go_wp2_with fail
      go_roundw
      case rel => exact ⟨k + 1, by omega, by go_num, d + nq, by simp [World.drewN, Nat.add_assoc]⟩
      case measure => simp [intOf]; omega
    · go_wp2
      go_ret
      exact ⟨rfl, d, rfl⟩
end Go.Proofs.YtajnfkmkombajaaDoor
