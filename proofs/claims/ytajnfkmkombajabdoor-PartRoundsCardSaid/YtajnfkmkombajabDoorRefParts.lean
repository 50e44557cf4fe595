/- Contracts of the document's DownOf and UpOf. -/
import Derived.Test.YtajnfkmkombajabDoorRefProd
set_option linter.unusedVariables false
set_option linter.unusedSimpArgs false
namespace Go.Proofs.YtajnfkmkombajabDoor
open Go.RowKit

theorem over_nat {a b c : Nat} (ha : a ≤ 1125899906842624) (hb : b ≤ 1125899906842624) (hc0 : 0 < c) (hc : c ≤ 1125899906842624) (h : a * b / c ≤ 1125899906842624) : overOk a b c := by
  refine ⟨by omega, by omega, by omega, ?_⟩
  have : ((a : Int) * b / c) = ((a * b / c : Nat) : Int) := by simp
  rw [this]; omega
theorem over_nat' {a b c : Nat} (h : ¬ a * b / c ≤ 1125899906842624) : ¬ overOk a b c := by
  rintro ⟨-, -, -, h'⟩
  have : ((a : Int) * b / c) = ((a * b / c : Nat) : Int) := by simp
  rw [this] at h'; omega
theorem overN_nat {a b c : Nat} (h : overOk a b c) : overN a b c = ((a * b / c : Nat) : Int) := by rw [(over_yes h).2.1]; simp

theorem refD {a b c : Int} (h : ¬ (amtB a = true ∧ amtB b = true ∧ amtB c = true ∧ c ≠ 0)) : ¬ overOk a b c := by
  rintro ⟨h1, h2, h3, -⟩
  exact h ⟨amtB_iff.2 h1, amtB_iff.2 h2, amtB_iff.2 (by omega), by omega⟩

set_option maxHeartbeats 400000 in
theorem ref_DownOf (a b c : Int) (w : World) :
    Calls Tryd.prog 56 #[.int .i64 a, .int .i64 b, .int .i64 c] w fun e w' => e = .returned (.tuple #[.int .i64 (overN a b c), .int .i64 (overC a b c)]) ∧ w = w' := by
  by_cases h : amtB a = true ∧ amtB b = true ∧ amtB c = true ∧ c ≠ 0
  · obtain ⟨h1, h2, h3, h4⟩ := h
    obtain ⟨a0, a1⟩ := amtB_iff.1 h1
    obtain ⟨b0, b1⟩ := amtB_iff.1 h2
    obtain ⟨c0, c1⟩ := amtB_iff.1 h3
    obtain ⟨a, rfl⟩ := Int.eq_ofNat_of_zero_le a0
    obtain ⟨b, rfl⟩ := Int.eq_ofNat_of_zero_le b0
    obtain ⟨c, rfl⟩ := Int.eq_ofNat_of_zero_le c0
    have HP := Lib.hid (ref_Product a b c (by omega) (by omega) (by omega) (by omega))
    have hc1 : decide ((c : Int) < 1) = false := decide_eq_false (by omega)
    by_cases hq : a * b / c ≤ 1125899906842624
    · have ho := over_nat (a := a) (b := b) (c := c) (by omega) (by omega) (by omega) (by omega) hq
      have HV := Lib.hid (rprod_yes hq)
      have hN := Lib.hid (overN_nat ho)
      have hC := Lib.hid (over_yes ho).1
      clear ho a0 a1 b0 b1 c0 c1 h4 hq
      generalize a * b / c = q at *
      generalize a * b % c = r at *
      go_enter Tryd.func56, Tryd.ntmps56
      go_wp2_with (first | (go_at_call 118; refine (refb_IsAmount _ _).mono ?_; rintro e w' ⟨rfl, rfl⟩) | (go_at_call 124; refine (HP.out _).mono ?_; rintro e w' ⟨rfl, rfl⟩; rw [HV.out]))
      go_ret2
      exact ⟨by rw [hN.out, hC.out]; rfl, rfl⟩
    · have HV := Lib.hid (rprod_no hq)
      have hC := Lib.hid (over_no (over_nat' hq))
      clear a0 a1 b0 b1 c0 c1 h4 hq
      go_enter Tryd.func56, Tryd.ntmps56
      go_wp2_with (first | (go_at_call 118; refine (refb_IsAmount _ _).mono ?_; rintro e w' ⟨rfl, rfl⟩) | (go_at_call 124; refine (HP.out _).mono ?_; rintro e w' ⟨rfl, rfl⟩; rw [HV.out]))
      go_ret2
      exact ⟨by rw [hC.out.1, hC.out.2.1]; rfl, rfl⟩
  · obtain ⟨k1, k2, -⟩ := over_no (refD h)
    have := ref_DownOf_out a b c h w
    rw [k1, k2]; exact this

set_option maxRecDepth 8000 in
set_option maxHeartbeats 400000 in
theorem ref_UpOf (a b c : Int) (w : World) :
    Calls Tryd.prog 57 #[.int .i64 a, .int .i64 b, .int .i64 c] w fun e w' => e = .returned (.tuple #[.int .i64 (upN a b c), .int .i64 (upC a b c)]) ∧ w = w' := by
  by_cases h : amtB a = true ∧ amtB b = true ∧ amtB c = true ∧ c ≠ 0
  · obtain ⟨h1, h2, h3, h4⟩ := h
    obtain ⟨a0, a1⟩ := amtB_iff.1 h1
    obtain ⟨b0, b1⟩ := amtB_iff.1 h2
    obtain ⟨c0, c1⟩ := amtB_iff.1 h3
    obtain ⟨a, rfl⟩ := Int.eq_ofNat_of_zero_le a0
    obtain ⟨b, rfl⟩ := Int.eq_ofNat_of_zero_le b0
    obtain ⟨c, rfl⟩ := Int.eq_ofNat_of_zero_le c0
    have HP := Lib.hid (ref_Product a b c (by omega) (by omega) (by omega) (by omega))
    have hc1 : decide ((c : Int) < 1) = false := decide_eq_false (by omega)
    by_cases hq : a * b / c ≤ 1125899906842624
    · have ho := over_nat (a := a) (b := b) (c := c) (by omega) (by omega) (by omega) (by omega) hq
      have HV := Lib.hid (rprod_yes hq)
      have e1 : ((a : Int) * b / c) = ((a * b / c : Nat) : Int) := by simp
      have e2 : ((a : Int) * b % c) = ((a * b % c : Nat) : Int) := by simp
      have hcl : a * b % c < c := Nat.mod_lt _ (by omega)
      have hu : upOk a b c ↔ ((a * b / c : Nat) : Int) + (if ((a * b % c : Nat) : Int) = 0 then 0 else 1) ≤ 1125899906842624 := by
        unfold upOk; rw [e1, e2]; exact ⟨fun h => h.2, fun h => ⟨ho, h⟩⟩
      have hun : upN a b c = if upOk a b c then ((a * b / c : Nat) : Int) + (if ((a * b % c : Nat) : Int) = 0 then 0 else 1) else 0 := by unfold upN; rw [e1, e2]
      have huc : upC a b c = if upOk a b c then 0 else 2 := rfl
      have q0 : (0 : Int) ≤ ((a * b / c : Nat) : Int) := Int.natCast_nonneg _
      have q1 : ((a * b / c : Nat) : Int) ≤ 1125899906842624 := by clear HV hu hun e1; generalize a * b / c = z at hq ⊢; omega
      have r0 : (0 : Int) ≤ ((a * b % c : Nat) : Int) := Int.natCast_nonneg _
      clear ho a0 a1 b0 b1 h4 e1 e2 hcl hq c0 c1
      generalize ((a * b / c : Nat) : Int) = q at *
      generalize ((a * b % c : Nat) : Int) = r at *
      by_cases hr : r = 0
      · subst hr
        have hok : upOk a b c := hu.2 (by rw [if_pos rfl]; omega)
        rw [if_pos hok] at hun huc
        have HN := Lib.hid hun; have HU := Lib.hid huc
        clear hu hok hun huc
        go_enter Tryd.func57, Tryd.ntmps57
        go_wp2_with (first | (go_at_call 118; refine (refb_IsAmount _ _).mono ?_; rintro e w' ⟨rfl, rfl⟩) | (go_at_call 124; refine (HP.out _).mono ?_; rintro e w' ⟨rfl, rfl⟩; rw [HV.out]))
        go_ret2
        exact ⟨by rw [HN.out, HU.out]; simp, rfl⟩
      · have hr0 : decide (0 < r) = true := decide_eq_true (by omega)
        clear r0
        by_cases hm : q + 1 ≤ 1125899906842624
        · have hok : upOk a b c := hu.2 (by rw [if_neg (by omega)]; omega)
          rw [if_pos hok, if_neg (by omega)] at hun
          rw [if_pos hok] at huc
          have HN := Lib.hid hun; have HU := Lib.hid huc
          clear hu hok hun huc
          go_enter Tryd.func57, Tryd.ntmps57
          go_wp2_with (first | (go_at_call 118; refine (refb_IsAmount _ _).mono ?_; rintro e w' ⟨rfl, rfl⟩) | (go_at_call 124; refine (HP.out _).mono ?_; rintro e w' ⟨rfl, rfl⟩; rw [HV.out]))
          go_ret2
          exact ⟨by rw [HN.out, HU.out]; rfl, rfl⟩
        · have hok : ¬ upOk a b c := fun hk => by have := hu.1 hk; rw [if_neg (by omega)] at this; omega
          rw [if_neg hok] at hun huc
          have HN := Lib.hid hun; have HU := Lib.hid huc
          clear hu hok hun huc
          go_enter Tryd.func57, Tryd.ntmps57
          go_wp2_with (first | (go_at_call 118; refine (refb_IsAmount _ _).mono ?_; rintro e w' ⟨rfl, rfl⟩) | (go_at_call 124; refine (HP.out _).mono ?_; rintro e w' ⟨rfl, rfl⟩; rw [HV.out]))
          go_ret2
          exact ⟨by rw [HN.out, HU.out]; rfl, rfl⟩
    · have HV := Lib.hid (rprod_no hq)
      have hC := Lib.hid (up_no (fun hk => over_nat' hq hk.1))
      clear a0 a1 b0 b1 c0 c1 h4 hq
      go_enter Tryd.func57, Tryd.ntmps57
      go_wp2_with (first | (go_at_call 118; refine (refb_IsAmount _ _).mono ?_; rintro e w' ⟨rfl, rfl⟩) | (go_at_call 124; refine (HP.out _).mono ?_; rintro e w' ⟨rfl, rfl⟩; rw [HV.out]))
      go_ret2
      exact ⟨by rw [hC.out.1, hC.out.2]; rfl, rfl⟩
  · obtain ⟨k1, k2⟩ := up_no (fun hk => refD h hk.1)
    have := ref_UpOf_out a b c h w
    rw [k1, k2]; exact this
end Go.Proofs.YtajnfkmkombajabDoor
