/- Contract of faulted (package bakehouselaw2). -/
import Derived.Test.YtajnfkmkombajabDoorCoded2
set_option linter.unusedVariables false
set_option linter.unusedSimpArgs false
namespace Go.Proofs.YtajnfkmkombajabDoor
open Go.RowKit

/-- an error, by its number and place, as it is told in this world -/
theorem law2_faulted (A : Nat → Addr) (v : Value) (f : Nat × Int) (w0 w : World) (hS : Sents A w) (hv : ErrIs A w0 w v f) (hf : f.1 ≤ 10) (h0 : f.2 ≠ -1 → f.1 ≠ 0) :
    Calls Tryd.prog 66 #[v, .agg #[.int .i64 f.1, .int .i64 f.2]] w fun e w' => e = .returned (.bool true) ∧ Below w.heap.size w w' := by
  obtain ⟨c, at_⟩ := f
  simp only at hf h0
  have HS := Lib.hid hS; clear hS
  have hcc : ((c : Int) == (c : Int)) = true := beq_self_eq_true _
  have haa : (at_ == at_) = true := beq_self_eq_true _
  have bx : ∀ a : Int, Below w.heap.size w (w.alloc (.cells #[.int .i64 c, .int .i64 a] 72)) := fun a => (Below.refl _ _).alloc (Nat.le_refl _) _
  have BX := Lib.hid bx; clear bx
  rcases hv with ⟨ha, hv⟩ | ⟨ha, g, _, hv, c0, c1⟩
  · simp only at ha hv
    subst ha
    by_cases hc : c = 0
    · subst hc
      rw [hv, ev_nil]
      clear hv haa
      go_enter Tryd.func66, Tryd.ntmps66
      go_wp2_with fail
      refine (code_nil _).mono ?_
      rintro e w' ⟨rfl, hb⟩
      have hb2 := btrans (BX.out _) hb
      have q0 := hb.cell (p := ⟨w.heap.size, 0, none⟩) (by simp)
      have q1 := hb.cell (p := ⟨w.heap.size, 1, none⟩) (by simp)
      simp at q0 q1
      go_wp2
      go_ret
      exact ⟨rfl, hb2⟩
    · rw [hv, ev_some A hc]
      have hc0 : ((c : Int) == 0) = false := by simp; exact hc
      clear hv haa
      go_enter Tryd.func66, Tryd.ntmps66
      go_wp2_with fail
      refine (code_bare A c (by omega) hf _ (HS.out.below (BX.out _))).mono ?_
      rintro e w' ⟨rfl, hb⟩
      have hb2 := btrans (BX.out _) hb
      have q0 := hb.cell (p := ⟨w.heap.size, 0, none⟩) (by simp)
      have q1 := hb.cell (p := ⟨w.heap.size, 1, none⟩) (by simp)
      simp at q0 q1
      go_wp2
      go_ret
      exact ⟨rfl, hb2⟩
  · simp only at ha hv c0 c1
    have hc : c ≠ 0 := h0 (by omega)
    rw [ev_some A hc] at c1
    rw [hv]
    have hc0 : ((c : Int) == 0) = false := by simp; exact hc
    have hgl := World.block_lt_of_cell? _ _ c0
    have C0 := Lib.hid c0; have C1 := Lib.hid c1
    clear hv c0 c1
    go_enter Tryd.func66, Tryd.ntmps66
    go_wp2_with fail
    refine (code_fault A c (by omega) hf at_ g _ (HS.out.below (BX.out _)) (by rw [(BX.out _).cell (p := ⟨g, 0, none⟩) hgl]; exact C0.out) (by rw [(BX.out _).cell (p := ⟨g, 1, none⟩) hgl]; exact C1.out)).mono ?_
    rintro e w' ⟨rfl, hb⟩
    have hb2 := btrans (BX.out _) hb
    have q0 := hb.cell (p := ⟨w.heap.size, 0, none⟩) (by simp)
    have q1 := hb.cell (p := ⟨w.heap.size, 1, none⟩) (by simp)
    simp at q0 q1
    go_wp2
    go_ret
    exact ⟨rfl, hb2⟩
end Go.Proofs.YtajnfkmkombajabDoor
