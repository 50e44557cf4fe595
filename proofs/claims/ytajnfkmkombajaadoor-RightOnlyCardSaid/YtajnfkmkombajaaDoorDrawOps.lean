/- Contracts of package draw: Height, Columns, Column, Pick. -/
import Derived.Test.YtajnfkmkombajaaDoorDrawNew
set_option linter.unusedVariables false
set_option linter.unusedSimpArgs false
namespace Go.Proofs.YtajnfkmkombajaaDoor
open Go.RowKit

section
variable {b cb : Nat} {zs : List Int} {w w' : World}
theorem DrawAt.keep {F : Nat → Prop} (h : DrawAt b cb zs w) (k : Keep F w w') (h1 : ¬ F b) (h2 : ¬ F cb) : DrawAt b cb zs w' := ⟨h.d.keep k h1, h.c.keep k h2⟩
theorem DrawAt.below (h : DrawAt b cb zs w) (k : Below w.heap.size w w') : DrawAt b cb zs w' := ⟨h.d.below k h.d.lt, h.c.below k h.c.lt⟩
theorem DrawAt.drewN (h : DrawAt b cb zs w) (n : Nat) : DrawAt b cb zs (w.drewN n) := ⟨h.d, h.c⟩
theorem DrawAt.high (h : DrawAt b cb zs w) : w.cell? ⟨b, 0, none⟩ = some (.int .i64 zs.sum) := by rw [h.d.cell]; rfl
theorem DrawAt.lst (h : DrawAt b cb zs w) : w.cell? ⟨b, 1, none⟩ = some (.slice (some ⟨cb, 0, none⟩) zs.length zs.length) := by rw [h.d.cell]; rfl
theorem DrawAt.col (h : DrawAt b cb zs w) (hz : ∀ x ∈ zs, 0 ≤ x) {k : Nat} (hk : k < zs.length) : w.cell? ⟨cb, k * 2, none⟩ = some (.int .i64 ((vose zs).getD k (0, 0)).1) ∧ w.cell? ⟨cb, k * 2 + 1, none⟩ = some (.int .i64 ((vose zs).getD k (0, 0)).2) := by
  rw [h.c.cell, h.c.cell]; exact colVs_get _ _ (by rw [(vose_just zs hz).size]; exact hk)
end

theorem weights_ok {zs : List Int} (h : (weightsF zs).1 = 0) : weightsF zs = (0, -1) ∧ 1 ≤ zs.length ∧ zs.length ≤ 64 ∧ (∀ x ∈ zs, 0 ≤ x ∧ x ≤ 1073741824) ∧ 1 ≤ zs.sum ∧ zs.sum ≤ 68719476736 := by
  unfold weightsF at h ⊢
  by_cases h1 : zs.length < 1 ∨ 64 < zs.length
  · rw [if_pos h1] at h; simp at h
  · rw [if_neg h1] at h ⊢
    by_cases h2 : 0 ≤ firstBad zs
    · rw [if_pos h2] at h; simp at h
    · rw [if_neg h2] at h ⊢
      by_cases h3 : zs.sum = 0
      · rw [if_pos h3] at h; simp at h
      · have hz := bad_pos zs h2
        have hs := sum_bds hz
        have : 1073741824 * (zs.length : Int) ≤ 1073741824 * 64 := by omega
        rw [if_neg h3]
        exact ⟨rfl, by omega, by omega, hz, by omega, by omega⟩

theorem draw_Height (b cb : Nat) (zs : List Int) (w : World) (h : DrawAt b cb zs w) :
    Calls Tryd.prog 28 #[.pointer (some ⟨b, 0, none⟩)] w fun e w' => e = .returned (.int .i64 zs.sum) ∧ w = w' := by
  have q := h.high
  clear h
  generalize zs.sum = H at *
  go_enter Tryd.func28, Tryd.ntmps28
  go_wp2
  go_ret
  exact ⟨rfl, rfl⟩
theorem draw_Columns (b cb : Nat) (zs : List Int) (w : World) (h : DrawAt b cb zs w) :
    Calls Tryd.prog 68 #[.pointer (some ⟨b, 0, none⟩)] w fun e w' => e = .returned (.int .i64 zs.length) ∧ w = w' := by
  have q := h.lst
  clear h
  generalize zs.length = n at *
  go_enter Tryd.func68, Tryd.ntmps68
  go_wp2
  go_ret
  exact ⟨rfl, rfl⟩

set_option maxHeartbeats 400000 in
theorem draw_Column_in (b cb : Nat) (zs : List Int) (k : Nat) (w : World) (h : DrawAt b cb zs w) (hz : ∀ x ∈ zs, 0 ≤ x) (hk : k < zs.length) :
    Calls Tryd.prog 27 #[.pointer (some ⟨b, 0, none⟩), .int .i64 k] w fun e w' => e = .returned (.tuple #[.int .i64 ((vose zs).getD k (0, 0)).1, .int .i64 ((vose zs).getD k (0, 0)).2, .nilIface]) ∧ Dr w w' := by
  have q1 := h.lst
  obtain ⟨q2, q3⟩ := h.col hz hk
  clear h hz
  generalize ((vose zs).getD k (0, 0)).1 = x at *
  generalize ((vose zs).getD k (0, 0)).2 = y at *
  generalize zs.length = n at *
  have e1 : decide ((n : Int) ≤ (k : Int)) = false := by simp; omega
  have i0 : (0 : Int) ≤ (k : Int) := by omega
  have i1 : (k : Int) < (n : Int) := by omega
  go_enter Tryd.func27, Tryd.ntmps27
  go_wp2_with fail
  go_quiet (fail)
  go_wp2_with fail
  go_ret3
  exact ⟨rfl, nq, rfl⟩

set_option maxHeartbeats 400000 in
theorem draw_Column_out (A : Nat → Addr) (S : List Nat) (b cb : Nat) (zs : List Int) (k : Int) (w : World) (h : DrawAt b cb zs w) (hE : Errs A S w) (h2 : 2 ∈ S) (hk : k < 0 ∨ (zs.length : Int) ≤ k) :
    Calls Tryd.prog 27 #[.pointer (some ⟨b, 0, none⟩), .int .i64 k] w fun e w' => e = .returned (.tuple #[.int .i64 0, .int .i64 0, ev A 2]) ∧ Dr w w' := by
  have g2 : w.cell? ⟨1, 0, none⟩ = some (.iface 111 (.pointer (some (A 2)))) := hE.cell 2 h2
  have q1 := h.lst
  clear h hE
  generalize zs.length = n at *
  by_cases h0 : k < 0
  · clear hk
    go_enter Tryd.func27, Tryd.ntmps27
    go_wp2_with fail
    go_quiet (fail)
    go_wp2_with fail
    go_ret3
    exact ⟨rfl, nq, rfl⟩
  · have hk' : (n : Int) ≤ k := by omega
    have e0 : decide (k < 0) = false := by simp; omega
    clear hk
    go_enter Tryd.func27, Tryd.ntmps27
    go_wp2_with fail
    go_quiet (fail)
    go_wp2_with fail
    go_ret3
    exact ⟨rfl, nq, rfl⟩

set_option maxHeartbeats 400000 in
theorem draw_Pick_in (b cb : Nat) (zs : List Int) (k : Nat) (a : Int) (w : World) (h : DrawAt b cb zs w) (hz : ∀ x ∈ zs, 0 ≤ x) (hk : k < zs.length) (h0 : 0 ≤ a) (h1 : a < zs.sum) :
    Calls Tryd.prog 29 #[.pointer (some ⟨b, 0, none⟩), .int .i64 k, .int .i64 a] w fun e w' => e = .returned (.tuple #[.int .i64 (pickOf (vose zs) k a), .nilIface]) ∧ Dr w w' := by
  have hC := Lib.hid (draw_Column_in b cb zs k w h hz hk)
  have q1 := h.high
  clear h hz hk
  have HP := Lib.hid (show pickOf (vose zs) k a = if a < ((vose zs).getD k (0, 0)).1 then (k : Int) else ((vose zs).getD k (0, 0)).2 from rfl)
  generalize ((vose zs).getD k (0, 0)).1 = x at *
  generalize ((vose zs).getD k (0, 0)).2 = y at *
  generalize zs.sum = H at *
  generalize pickOf (vose zs) k a = pk at *
  have e0 : decide (a < 0) = false := by simp; omega
  have e1 : decide (H ≤ a) = false := by simp; omega
  by_cases hx : a < x
  · go_enter Tryd.func29, Tryd.ntmps29
    go_wp2_with fail
    refine hC.out.mono ?_
    rintro e w' ⟨rfl, n, rfl⟩
    go_wp2_with fail
    go_ret2
    exact ⟨by rw [HP.out, if_pos hx]; rfl, n, rfl⟩
  · go_enter Tryd.func29, Tryd.ntmps29
    go_wp2_with fail
    refine hC.out.mono ?_
    rintro e w' ⟨rfl, n, rfl⟩
    go_wp2_with fail
    go_ret2
    exact ⟨by rw [HP.out, if_neg (by omega)]; rfl, n, rfl⟩

set_option maxHeartbeats 400000 in
theorem draw_Pick_out (A : Nat → Addr) (S : List Nat) (b cb : Nat) (zs : List Int) (k a : Int) (w : World) (h : DrawAt b cb zs w) (hz : ∀ x ∈ zs, 0 ≤ x) (hE : Errs A S w) (h2 : 2 ∈ S) (hk : ¬ (0 ≤ k ∧ k < (zs.length : Int) ∧ 0 ≤ a ∧ a < zs.sum)) :
    Calls Tryd.prog 29 #[.pointer (some ⟨b, 0, none⟩), .int .i64 k, .int .i64 a] w fun e w' => e = .returned (.tuple #[.int .i64 0, ev A 2]) ∧ Dr w w' := by
  have g2 : w.cell? ⟨1, 0, none⟩ = some (.iface 111 (.pointer (some (A 2)))) := hE.cell 2 h2
  have q1 := h.high
  by_cases hin : 0 ≤ k ∧ k < (zs.length : Int)
  · obtain ⟨k0, k1⟩ := hin
    obtain ⟨k, rfl⟩ := Int.eq_ofNat_of_zero_le k0
    have hC := Lib.hid (draw_Column_in b cb zs k w h hz (by omega))
    have hk' : a < 0 ∨ (0 ≤ a ∧ zs.sum ≤ a) := by omega
    clear h hz hk hE
    generalize ((vose zs).getD k (0, 0)).1 = x at *
    generalize ((vose zs).getD k (0, 0)).2 = y at *
    generalize zs.sum = H at *
    rcases hk' with hk' | ⟨hk', hk2⟩
    · go_enter Tryd.func29, Tryd.ntmps29
      go_wp2_with fail
      refine hC.out.mono ?_
      rintro e w' ⟨rfl, n, rfl⟩
      go_wp2_with fail
      go_quiet (fail)
      go_wp2_with fail
      go_ret2
      exact ⟨rfl, n + nq, by simp [World.drewN, Nat.add_assoc]⟩
    · have e0 : decide (a < 0) = false := by simp; omega
      have e1 : decide (H ≤ a) = true := by simp; omega
      go_enter Tryd.func29, Tryd.ntmps29
      go_wp2_with fail
      refine hC.out.mono ?_
      rintro e w' ⟨rfl, n, rfl⟩
      go_wp2_with fail
      go_quiet (fail)
      go_wp2_with fail
      go_ret2
      exact ⟨rfl, n + nq, by simp [World.drewN, Nat.add_assoc]⟩
  · have hC := Lib.hid (draw_Column_out A S b cb zs k w h hE h2 (by omega))
    clear h hz hk hE hin
    have he : ev A 2 = .iface 111 (.pointer (some (A 2))) := rfl
    rw [he] at hC ⊢
    clear he
    go_enter Tryd.func29, Tryd.ntmps29
    go_wp2_with fail
    refine hC.out.mono ?_
    rintro e w' ⟨rfl, n, rfl⟩
    go_wp2_with fail
    go_quiet (fail)
    go_wp2_with fail
    go_ret2
    exact ⟨rfl, n + nq, by simp [World.drewN, Nat.add_assoc]⟩
end Go.Proofs.YtajnfkmkombajaaDoor
