/- Contracts: maps.Clone at a pool's map; pool.Copy. -/
import Derived.Test.YtajnfkmkombajacDoorPool2
import Derived.Shelf.SlMaps.Clone
set_option linter.unusedVariables false
set_option linter.unusedSimpArgs false
namespace Go.Proofs.YtajnfkmkombajacDoor
open Go.RowKit Go.Maps

set_option maxRecDepth 100000 in
set_option maxHeartbeats 1000000 in
theorem maps_Clone (b : Nat) (es : Array MapEntry) (clock : Nat) (w : World) (hb : w.heap[b]? = some (.map es clock)) :
    Calls Tryd.prog 51 #[.map (some b)] w fun e w' => e = .returned (.map (some w.heap.size)) ∧ w' = w.alloc (.map es clock) := by
  have hq := fun w => run_eql_map_nil_sl (P := Tryd.prog) w 72 _ _ (some b) Tryd.underlying72
  go_enter Tryd.func51, Tryd.ntmps51
  go_wp2
  rw [run_callFunc_extern Tryd.func69 (by kernel_rfl) (by kernel_rfl) (by kernel_rfl) (e := Extern.MapsClone.clone) (by kernel_rfl), run_maps_clone_sl w 72 hb]
  simp only [Result.andThen]
  rw [Oper.upon_value]
  go_wp2
  rw [run_typeAssert_map_sl _ 72 _ _ _ _ Tryd.underlying72]
  simp only [Result.andThen]
  rw [Oper.upon_value]
  go_wp2
  go_ret
  exact ⟨rfl, rfl⟩

theorem pool_copied {b mb n : Nat} {q : QS} {w : World} (h : PoolAt b mb n q w) {es : Array MapEntry} {clock : Nat} (hb : w.heap[mb]? = some (.map es clock)) :
    Below w.heap.size w ((w.drew.alloc (.map es clock)).alloc (.cells #[.int .i64 q.total, .int .i64 q.all, .map (some w.heap.size)] 74)) ∧
    PoolAt (w.heap.size + 1) w.heap.size n q ((w.drew.alloc (.map es clock)).alloc (.cells #[.int .i64 q.total, .int .i64 q.all, .map (some w.heap.size)] 74)) ∧
    ((w.drew.alloc (.map es clock)).alloc (.cells #[.int .i64 q.total, .int .i64 q.all, .map (some w.heap.size)] 74)).heap.size = w.heap.size + 2 := by
  have hs : (w.drew.alloc (.map es clock)).heap.size = w.heap.size + 1 := by
    show (w.alloc (.map es clock)).heap.size = _
    simp
  obtain ⟨D, ⟨es', clock', hb', F, hn, hD⟩, hat⟩ := h.own
  rw [hb] at hb'; cases hb'
  refine ⟨(((Below.refl _ w).drewN 1).alloc (Nat.le_refl _) _).alloc (Nat.le_of_lt (by rw [show ((w.drewN 1).alloc (.map es clock)).heap.size = w.heap.size + 1 from hs]; exact Nat.lt_succ_self _)) _, ⟨h.ok, ?_, ⟨D, ?_, hat⟩, by omega⟩, by
    rw [World.size_alloc, hs]⟩
  · have := RowAt.new (w.drew.alloc (.map es clock)) 74 [.int .i64 q.total, .int .i64 q.all, .map (some w.heap.size)]
    rw [hs] at this
    exact this
  · exact World.ownsMap.alloc ⟨es, clock, (MapKept.heap_alloc w.drew _).1, F, hn, hD⟩ _

set_option maxRecDepth 8000 in
set_option maxHeartbeats 2000000 in
/-- the copy: new blocks, the same shares -/
theorem pool_Copy (b mb n : Nat) (q : QS) (w : World) (h : PoolAt b mb n q w) : Calls Tryd.prog 27 #[.pointer (some ⟨b, 0, none⟩)] w fun e w' => e = .returned (.pointer (some ⟨w.heap.size + 1, 0, none⟩)) ∧ Below w.heap.size w w' ∧ PoolAt (w.heap.size + 1) w.heap.size n q w' ∧ w'.heap.size = w.heap.size + 2 := by
  have c0 := h.c0
  have c1 := h.c1
  have c2 := h.c2
  have hlt := h.lt.1
  obtain ⟨es, clock, hb, F, hs, hD⟩ := h.own.choose_spec.1
  have HC := Lib.hid (fun (wx : World) (hx : wx.heap = w.heap) => maps_Clone mb es clock wx (by rw [hx]; exact hb))
  have HP := Lib.hid (pool_copied h hb)
  clear h hs F hD hb
  go_enter Tryd.func27, Tryd.ntmps27
  go_wp2_with fail
  go_region_with (go_at_call 51; refine (HC.out w.drew rfl).mono ?_; rintro e w1 ⟨rfl, rfl⟩)
  all_goals
    go_wp2
    go_ret
    exact ⟨rfl, HP.out⟩
end Go.Proofs.YtajnfkmkombajacDoor
