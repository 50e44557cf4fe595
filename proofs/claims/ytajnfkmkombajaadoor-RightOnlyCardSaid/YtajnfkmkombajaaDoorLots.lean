/- Contracts of package lots: New, Next, Mix; and the law's OwnInts. -/
import Derived.Test.YtajnfkmkombajaaDoorProg
import Derived.Test.YtajnfkmkombajaaDoorPlLots
import Derived.Test.YtajnfkmkombajaaDoorBase
import Derived.Test.YtajnfkmkombajaaDoorOwnInts
import Derived.Outline
import Derived.Laws.AppendOwnNone
import Derived.KernelRfl
set_option linter.unusedVariables false
set_option linter.unusedSimpArgs false
namespace Go.Proofs.YtajnfkmkombajaaDoor
open Go.RowKit

theorem lots_New (s : Int) (w : World) :
    Calls Tryd.prog 57 #[.int .u64 s] w fun e w' => e = .returned (.pointer (some ⟨w.heap.size, 0, none⟩)) ∧ w.alloc (.cells #[.int .u64 s] 115) = w' := by
  go_enter Tryd.func57, Tryd.ntmps57
  go_wp2
  go_ret
  exact ⟨rfl, rfl⟩

theorem lots_Next (b : Nat) (s : Int) (w : World) (hc : w.cell? ⟨b, 0, none⟩ = some (.int .u64 s)) (hf : w.frozen? ⟨b, 0, none⟩ = false) :
    Calls Tryd.prog 59 #[.pointer (some ⟨b, 0, none⟩)] w fun e w' => e = .returned (.int .u64 (lotOut (lotAdv s))) ∧ w.setCell ⟨b, 0, none⟩ (.int .u64 (lotAdv s)) = w' := by
  go_enter Tryd.func59, Tryd.ntmps59
  go_wp2
  go_ret
  exact ⟨rfl, rfl⟩

theorem lots_Next_new (s : Int) (w : World) :
    Calls Tryd.prog 59 #[.pointer (some ⟨w.heap.size, 0, none⟩)] (w.alloc (.cells #[.int .u64 s] 115)) fun e w' => e = .returned (.int .u64 (lotOut (lotAdv s))) ∧ w.alloc (.cells #[.int .u64 (lotAdv s)] 115) = w' :=
  (lots_Next w.heap.size s _ (by simp) (by simp)).mono fun e w' ⟨he, hw⟩ => ⟨he, by rw [← hw, World.setCell_alloc_new]; rfl⟩

theorem lots_Mix (s : Int) (ao : Option Addr) (len cap : Nat) (zs : List Int) (w : World) (R : RdI .i64 w ao len cap zs) :
    Calls Tryd.prog 62 #[.int .u64 s, .slice ao len cap] w fun e w' => e = .returned (.int .u64 (mixL s zs)) ∧ Below w.heap.size w w' := by
  have hlen := R.size
  have hm : len ≤ 9223372036854775807 := by have := R.lc; have := R.cm; unfold maxLen at *; omega
  rcases R.split with ⟨rfl, rfl⟩ | ⟨h0, b, off, rfl, hb, hcell⟩
  · go_enter Tryd.func62, Tryd.ntmps62
    go_wp2
    refine wp_loop_rounds 1 ?_
    rw [rounds_succ]
    go_wp2
    go_ret
    exact ⟨rfl, Below.refl _ _⟩
  · have Hl := Lib.hid hlen; clear hlen R
    have Hc := Lib.hid hcell; clear hcell
    go_enter Tryd.func62, Tryd.ntmps62
    go_wp2_with fail
    go_loopw [0, 9] (fun t i wr => ∃ k : Nat, k ≤ len ∧ i = .int .i64 k ∧ t = .int .u64 (mixL s (zs.take k)) ∧ Below w.heap.size w wr) (fun _ i _ => len - (intOf i).toNat)
    case atStart => exact ⟨0, Nat.zero_le _, rfl, rfl, Below.refl _ _⟩
    case round =>
      obtain ⟨k, hk, rfl, rfl, hbel⟩ := hrel
      by_cases hlt : k < len
      · have hck : wr.cell? ⟨b, off + k, none⟩ = some (.int .i64 (zs.getD k 0)) := by rw [hbel.cell (p := ⟨b, off + k, none⟩) hb]; exact Hc.out k hlt
        have hts : mixL s (zs.take (k + 1)) = mix1 (mixL s (zs.take k)) (zs.getD k 0) := by
          rw [List.take_succ_eq_append_getElem (by rw [Hl.out]; exact hlt), mixL_snoc]; simp [Hl.out, hlt]
        have Ht := Lib.hid hts; clear hts
        generalize zs.getD k 0 = z at *
        go_wp2_with (first | (go_at_call 57; refine (lots_New _ _).mono ?_; rintro e w' ⟨rfl, rfl⟩) | (go_at_call 59; refine (lots_Next_new _ _).mono ?_; rintro e w' ⟨rfl, rfl⟩))
        go_roundw
        case rel => exact ⟨k + 1, by omega, by go_num, by rw [Ht.out]; rfl, hbel.alloc hbel.size _⟩
        case measure => simp [intOf]; omega
      · go_wp2
        go_ret
        exact ⟨by rw [List.take_of_length_le (by rw [Hl.out]; omega)]; rfl, hbel⟩

end Go.Proofs.YtajnfkmkombajaaDoor
