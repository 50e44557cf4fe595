/- Contract of the laws' OwnInts: a copy of the numbers. -/
import Derived.Test.YtajnfkmkombajaaDoorProg
import Derived.Test.YtajnfkmkombajaaDoorBase
import Derived.Outline
import Derived.Laws.AppendOwnNone
import Derived.KernelRfl
set_option linter.unusedVariables false
set_option linter.unusedSimpArgs false
namespace Go.Proofs.YtajnfkmkombajaaDoor
open Go.RowKit

theorem Tryd.infoInt : (Tryd.prog.info? 3).map (fun i => (i.zero, i.size, i.bytes)) = some (some (.int .i64 0), 1, 8) := by kernel_rfl

/-- what OwnInts leaves: a slice of the call's own that reads as the numbers that were handed in -/
def OwnedInts (W : World) (len : Nat) (zs : List Int) (e : Ending) (w' : World) : Prop := ∃ ao cap, e = .returned (.slice ao len cap) ∧ w'.ownsRow W.heap.size 3 1 (.slice ao len cap) len (zs.map (Value.int .i64)) ∧ Below W.heap.size W w'

theorem law_OwnInts (ao : Option Addr) (len cap : Nat) (zs : List Int) (w : World) (R : RdI .i64 w ao len cap zs) (hb : len * 8 ≤ 140737488355328) :
    Calls Tryd.prog 26 #[.slice ao len cap] w (OwnedInts w len zs) := by
  obtain ⟨i0, hi, hz0, hz1, hz2⟩ := info_parts Tryd.infoInt
  have hlen := R.size
  have hmx : len ≤ maxLen := Nat.le_trans R.lc R.cm
  have hone : ∀ u ∈ zs.map (Value.int IntKind.i64), u.oneCell' = true := by intro u hu; obtain ⟨x, _, rfl⟩ := List.mem_map.1 hu; rfl
  rcases R.split with ⟨rfl, rfl⟩ | ⟨h0, b, off, rfl, hbl, hcell⟩
  · cases ao with
    | none =>
      obtain rfl : cap = 0 := R.nul rfl
      clear R hone
      go_enter Tryd.func26, Tryd.ntmps26
      go_wp2_with (at_builtin; refine wpList_append_own_none rfl _ _ 23 rfl w.heap.size 3 i0 1 Tryd.underlying23 hi hz1 _ 0 [] rfl (World.ownsRow_nil _ _ _ _) 0 rfl ?_)
      go_ret
      refine ⟨none, 0, rfl, World.ownsRow_nil _ _ _ _, Below.refl _ _⟩
    | some x =>
      clear R hone
      go_enter Tryd.func26, Tryd.ntmps26
      go_wp2_with (at_builtin; refine wpList_append_own _ rfl _ _ 23 rfl w.heap.size 3 i0 (.int .i64 0) 1 8 Tryd.underlying23 hi hz0 hz1 hz2 rfl (by decide) _ 0 [] rfl (World.ownsRow_nil _ _ _ _) x 0 cap [] rfl rfl (by intro j u h; cases h) (by intro u h; cases h) (by simp) (by simp) (Nat.le_refl _) ?_)
      intro v' w1 hown hg _
      obtain ⟨ao', cap', hv⟩ := own_shape hown
      rw [hv] at hown
      rw [hv]
      clear hv
      go_wp2
      go_ret
      refine ⟨ao', cap', rfl, hown, (Below.refl _ _).grown hg (Nat.le_refl _) (by intro k h; cases h)⟩
  · have Hl := Lib.hid hlen; clear hlen
    have hcs : ∀ j u, (zs.map (Value.int IntKind.i64))[j]? = some u → w.cell? ((⟨b, off, none⟩ : Addr).add j) = some u := by
      intro j u hj
      rw [List.getElem?_map] at hj
      obtain ⟨x, hx, rfl⟩ := Option.map_eq_some_iff.1 hj
      have hjl : j < zs.length := (List.getElem?_eq_some_iff.1 hx).1
      have := hcell j (by rw [← Hl.out]; exact hjl)
      rw [List.getD_eq_getElem?_getD, hx] at this
      cases j <;> simpa [Addr.add] using this
    have Hc := Lib.hid hcell; clear hcell
    have Hcs := Lib.hid hcs; clear hcs
    have Ho := Lib.hid hone; clear hone
    go_enter Tryd.func26, Tryd.ntmps26
    go_wp2_with (at_builtin; refine wpList_append_own _ rfl _ _ 23 rfl w.heap.size 3 i0 (.int .i64 0) 1 8 Tryd.underlying23 hi hz0 hz1 hz2 rfl (by decide) _ 0 [] rfl (World.ownsRow_nil _ _ _ _) ⟨b, off, none⟩ len cap (zs.map (Value.int .i64)) rfl (by rw [List.length_map, Hl.out, Nat.mul_one]) Hcs.out Ho.out (by rw [Nat.zero_add]; exact hmx) (by rw [Nat.zero_add]; exact hb) (Nat.le_refl _) ?_)
    intro v' w1 hown hg _
    obtain ⟨ao', cap', hv⟩ := own_shape hown
    rw [hv] at hown
    rw [hv]
    clear hv
    go_wp2
    go_ret
    refine ⟨ao', cap', rfl, hown, (Below.refl _ _).grown hg (Nat.le_refl _) (by intro k h; cases h)⟩
end Go.Proofs.YtajnfkmkombajaaDoor
