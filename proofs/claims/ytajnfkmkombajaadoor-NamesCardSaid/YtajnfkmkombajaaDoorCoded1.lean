/- Contracts of the laws' coded and faulted (package bakehouselaw1). -/
import Derived.Test.YtajnfkmkombajaaDoorCode
set_option linter.unusedVariables false
set_option linter.unusedSimpArgs false
namespace Go.Proofs.YtajnfkmkombajaaDoor
open Go.RowKit

theorem law1_coded (A : Nat → Addr) (c : Nat) (hc : c ≤ 10) (w : World) (hS : Sents A w) :
    Calls Tryd.prog 54 #[ev A c, .int .i64 c] w fun e w' => e = .returned (.bool true) ∧ Below w.heap.size w w' := by
  have HS := Lib.hid hS; clear hS
  by_cases h0 : c = 0
  · subst h0
    simp only [ev_nil, Int.natCast_zero]
    go_enter Tryd.func54, Tryd.ntmps54
    go_wp2_with fail
    refine (code_nil _).mono ?_
    rintro e w' ⟨rfl, hb⟩
    go_wp2
    go_ret
    exact ⟨rfl, hb⟩
  · have he := ev_some A h0
    rw [he]
    have hcc : ((c : Int) == (c : Int)) = true := beq_self_eq_true _
    clear he
    go_enter Tryd.func54, Tryd.ntmps54
    go_wp2_with fail
    refine (code_bare A c (by omega) hc _ HS.out).mono ?_
    rintro e w' ⟨rfl, hb⟩
    go_wp2
    go_ret
    exact ⟨rfl, hb⟩
end Go.Proofs.YtajnfkmkombajaaDoor
