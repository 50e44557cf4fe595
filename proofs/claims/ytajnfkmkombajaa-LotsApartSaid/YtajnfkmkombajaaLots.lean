/- Contracts of package lots: New, Next, Mix; and the law's OwnInts. -/
import Derived.Test.YtajnfkmkombajaaProg
import Derived.Test.YtajnfkmkombajaaPlLots
import Derived.Test.YtajnfkmkombajaaBase
import Derived.Outline
import Derived.Laws.AppendOwnNone
import Derived.KernelRfl
namespace Go.Proofs.Ytajnfkmkombajaa
open Go.RowKit

theorem lots_New (s : Int) (w : World) :
    Calls Try.prog 5 #[.int .u64 s] w fun e w' => e = .returned (.pointer (some ⟨w.heap.size, 0, none⟩)) ∧ w.alloc (.cells #[.int .u64 s] 33) = w' := by
  go_enter Try.func5, Try.ntmps5
  go_wp2
  go_ret
  exact ⟨rfl, rfl⟩

theorem lots_Next (b : Nat) (s : Int) (w : World) (hc : w.cell? ⟨b, 0, none⟩ = some (.int .u64 s)) (hf : w.frozen? ⟨b, 0, none⟩ = false) :
    Calls Try.prog 6 #[.pointer (some ⟨b, 0, none⟩)] w fun e w' => e = .returned (.int .u64 (lotOut (lotAdv s))) ∧ w.setCell ⟨b, 0, none⟩ (.int .u64 (lotAdv s)) = w' := by
  go_enter Try.func6, Try.ntmps6
  go_wp2
  go_ret
  exact ⟨rfl, rfl⟩

theorem lots_Next_new (s : Int) (w : World) :
    Calls Try.prog 6 #[.pointer (some ⟨w.heap.size, 0, none⟩)] (w.alloc (.cells #[.int .u64 s] 33)) fun e w' => e = .returned (.int .u64 (lotOut (lotAdv s))) ∧ w.alloc (.cells #[.int .u64 (lotAdv s)] 33) = w' :=
  (lots_Next w.heap.size s _ (by simp) (by simp)).mono fun e w' ⟨he, hw⟩ => ⟨he, by rw [← hw, World.setCell_alloc_new]; rfl⟩

theorem lots_Mix (s : Int) (ao : Option Addr) (len cap : Nat) (zs : List Int) (w : World) (R : RdI .i64 w ao len cap zs) :
    Calls Try.prog 7 #[.int .u64 s, .slice ao len cap] w fun e w' => e = .returned (.int .u64 (mixL s zs)) ∧ Below w.heap.size w w' := by
  have hlen := R.size
  have hm : len ≤ 9223372036854775807 := by have := R.lc; have := R.cm; unfold maxLen at *; omega
  rcases R.split with ⟨rfl, rfl⟩ | ⟨h0, b, off, rfl, hb, hcell⟩
  · go_enter Try.func7, Try.ntmps7
    go_wp2
    refine wp_loop_rounds 1 ?_
    rw [rounds_succ]
    go_wp2
    go_ret
    exact ⟨rfl, Below.refl _ _⟩
  · have Hl := Lib.hid hlen; clear hlen R
    have Hc := Lib.hid hcell; clear hcell
    go_enter Try.func7, Try.ntmps7
    go_wp2_with fail
    go_loopw [0, 9] (fun t i wr => ∃ k : Nat, k ≤ len ∧ i = .int .i64 k ∧ t = .int .u64 (mixL s (zs.take k)) ∧ Below w.heap.size w wr) (fun _ i _ => len - (intOf i).toNat)
    case atStart => exact ⟨0, Nat.zero_le _, rfl, rfl, Below.refl _ _⟩
    case round =>
      obtain ⟨k, hk, rfl, rfl, hbel⟩ := hrel
      by_cases hlt : k < len
      · have hck : wr.cell? ⟨b, off + k, none⟩ = some (.int .i64 (zs.getD k 0)) := by rw [hbel.cell (p := ⟨b, off + k, none⟩) hb]; exact Hc.out k hlt
        have hts : mixL s (zs.take (k + 1)) = mix1 (mixL s (zs.take k)) (zs.getD k 0) := by
          rw [List.take_succ_eq_append_getElem (by rw [Hl.out]; exact hlt), mixL_snoc]; simp [Hl.out, hlt]
        have Ht := Lib.hid hts; clear hts
        generalize zs.getD k 0 = z at *
        go_wp2_with (first | (go_at_call 5; refine (lots_New _ _).mono ?_; rintro e w' ⟨rfl, rfl⟩) | (go_at_call 6; refine (lots_Next_new _ _).mono ?_; rintro e w' ⟨rfl, rfl⟩))
        go_roundw
        case rel => exact ⟨k + 1, by omega, by go_num, by rw [Ht.out]; rfl, hbel.alloc hbel.size _⟩
        case measure => simp [intOf]; omega
      · go_wp2
        go_ret
        exact ⟨by rw [List.take_of_length_le (by rw [Hl.out]; omega)]; rfl, hbel⟩

theorem Try.infoInt : (Try.prog.info? 3).map (fun i => (i.zero, i.size, i.bytes)) = some (some (.int .i64 0), 1, 8) := by kernel_rfl

/-- what OwnInts leaves: a slice of the call's own that reads as the numbers that were handed in -/
def OwnedInts (W : World) (len : Nat) (zs : List Int) (e : Ending) (w' : World) : Prop := ∃ ao cap, e = .returned (.slice ao len cap) ∧ w'.ownsRow W.heap.size 3 1 (.slice ao len cap) len (zs.map (Value.int .i64)) ∧ Below W.heap.size W w'

theorem law_OwnInts (ao : Option Addr) (len cap : Nat) (zs : List Int) (w : World) (R : RdI .i64 w ao len cap zs) (hb : len * 8 ≤ 140737488355328) :
    Calls Try.prog 8 #[.slice ao len cap] w (OwnedInts w len zs) := by
  obtain ⟨i0, hi, hz0, hz1, hz2⟩ := info_parts Try.infoInt
  have hlen := R.size
  have hmx : len ≤ maxLen := Nat.le_trans R.lc R.cm
  have hone : ∀ u ∈ zs.map (Value.int IntKind.i64), u.oneCell' = true := by intro u hu; obtain ⟨x, _, rfl⟩ := List.mem_map.1 hu; rfl
  rcases R.split with ⟨rfl, rfl⟩ | ⟨h0, b, off, rfl, hbl, hcell⟩
  · cases ao with
    | none =>
      obtain rfl : cap = 0 := R.nul rfl
      clear R hone
      go_enter Try.func8, Try.ntmps8
      go_wp2_with (at_builtin; refine wpList_append_own_none rfl _ _ 23 rfl w.heap.size 3 i0 1 Try.underlying23 hi hz1 _ 0 [] rfl (World.ownsRow_nil _ _ _ _) 0 rfl ?_)
      go_ret
      refine ⟨none, 0, rfl, World.ownsRow_nil _ _ _ _, Below.refl _ _⟩
    | some x =>
      clear R hone
      go_enter Try.func8, Try.ntmps8
      go_wp2_with (at_builtin; refine wpList_append_own _ rfl _ _ 23 rfl w.heap.size 3 i0 (.int .i64 0) 1 8 Try.underlying23 hi hz0 hz1 hz2 rfl (by decide) _ 0 [] rfl (World.ownsRow_nil _ _ _ _) x 0 cap [] rfl rfl (by intro j u h; cases h) (by intro u h; cases h) (by simp) (by simp) (Nat.le_refl _) ?_)
      intro v' w1 hown hg _
      obtain ⟨ao', cap', hv⟩ := own_shape hown
      rw [hv] at hown
      rw [hv]
      clear hv
      go_wp2
      go_ret
      refine ⟨ao', cap', rfl, hown, (Below.refl _ _).grown hg (Nat.le_refl _) (by intro k h; cases h)⟩
  · have Hl := Lib.hid hlen; clear hlen
    have hcs : ∀ j u, (zs.map (Value.int IntKind.i64))[j]? = some u → w.cell? ((⟨b, off, none⟩ : Addr).add j) = some u := by
      intro j u hj
      rw [List.getElem?_map] at hj
      obtain ⟨x, hx, rfl⟩ := Option.map_eq_some_iff.1 hj
      have hjl : j < zs.length := (List.getElem?_eq_some_iff.1 hx).1
      have := hcell j (by rw [← Hl.out]; exact hjl)
      rw [List.getD_eq_getElem?_getD, hx] at this
      cases j <;> simpa [Addr.add] using this
    have Hc := Lib.hid hcell; clear hcell
    have Hcs := Lib.hid hcs; clear hcs
    have Ho := Lib.hid hone; clear hone
    go_enter Try.func8, Try.ntmps8
    go_wp2_with (at_builtin; refine wpList_append_own _ rfl _ _ 23 rfl w.heap.size 3 i0 (.int .i64 0) 1 8 Try.underlying23 hi hz0 hz1 hz2 rfl (by decide) _ 0 [] rfl (World.ownsRow_nil _ _ _ _) ⟨b, off, none⟩ len cap (zs.map (Value.int .i64)) rfl (by rw [List.length_map, Hl.out, Nat.mul_one]) Hcs.out Ho.out (by rw [Nat.zero_add]; exact hmx) (by rw [Nat.zero_add]; exact hb) (Nat.le_refl _) ?_)
    intro v' w1 hown hg _
    obtain ⟨ao', cap', hv⟩ := own_shape hown
    rw [hv] at hown
    rw [hv]
    clear hv
    go_wp2
    go_ret
    refine ⟨ao', cap', rfl, hown, (Below.refl _ _).grown hg (Nat.le_refl _) (by intro k h; cases h)⟩
end Go.Proofs.Ytajnfkmkombajaa
